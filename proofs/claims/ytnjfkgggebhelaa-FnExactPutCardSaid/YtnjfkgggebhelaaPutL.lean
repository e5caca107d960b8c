/- The law on PutCard. -/
import Derived.Test.YtnjfkgggebhelaaSortL
import Derived.Deep.RegionHeld3
namespace Go.Proofs.Ytnjfkgggebhelaa
set_option linter.unusedSimpArgs false
set_option linter.unusedVariables false
set_option maxHeartbeats 1000000
set_option maxRecDepth 100000
open Go.RowKit

theorem sortU_asc {cs : List C4} (h : Asc cs) : sortU cs = cs :=
  srt_unique (sortU_srt h.ok) h.asc fun x => mem_sortU h.ok x
def pcB (cs : List C4) (c : C4) : Bool := handB cs && (ok c && (!hasB cs c && decide (cs.length < 27)))
def pcR (cs : List C4) (c : C4) : List C4 := if pcB cs c then putC cs c else []
theorem pcR_len (cs : List C4) (c : C4) : (pcR cs c).length ≤ 27 := by
  unfold pcR; split
  · rename_i h
    simp only [pcB, Bool.and_eq_true, decide_eq_true_iff] at h
    have := putC_len cs c
    omega
  · simp
theorem sorted_n {cs : List C4} {b o n cap : Nat} {w : World} {r : List C4} (hl : cs.length = n) (hr : sortU cs = r) (hn : n ≤ 100000000) (ho : ∀ z ∈ cs, Ok z) (hz : Sl w (some ⟨b, o, none⟩) cs) :
    Calls Try.prog 43 #[.slice (some ⟨b, o, none⟩) n cap] w fun e w' => ∃ g cap', e = .returned (.slice (some ⟨g, 0, none⟩) r.length cap') ∧ Ex w w' ∧ RowV 29 4 w.heap.size w' g cap' r.length (cellsOf r) := by
  subst hl; subst hr; exact sorted_c cs b o cap w hn ho hz
theorem Box4.apart {w w' : World} {b lo hi : Nat} {x y z t : Int} (h : Box4 w b x y z t) (k : Apart lo hi w w') (hb : b < lo ∨ hi ≤ b) : Box4 w' b x y z t := by
  have e : ∀ i, w'.cell? ⟨b, i, none⟩ = w.cell? ⟨b, i, none⟩ := fun i => by simp only [World.cell?]; rw [k.same b h.lt hb]
  exact ⟨Nat.lt_of_lt_of_le h.lt k.size, by rw [e]; exact h.c0, by rw [e]; exact h.c1, by rw [e]; exact h.c2, by rw [e]; exact h.c3⟩
theorem alloc_sz_of {w w' : World} {o : Obj} (hx : Ex (w.alloc o) w') : (w.alloc o).heap.size = w.heap.size + 1 := by simp
theorem drew_sz (w : World) : w.drew.heap.size = w.heap.size := rfl

theorem specPutCard_c (cs : List C4) (c : C4) (b : Nat) (cap : Nat) (w : World) (hn : cs.length ≤ 100000000) (hcap : cs.length ≤ cap) (hz : Sl w (some ⟨b, 0, none⟩) cs) :
    Calls Try.prog 19 #[.slice (some ⟨b, 0, none⟩) cs.length cap, .agg #[.int .i64 c.a, .int .i64 c.b, .int .i64 c.c, .int .i64 c.d]] w fun e w' => ∃ q cap', e = .returned (.tuple #[.slice q (pcR cs c).length cap', .bool (pcB cs c)]) ∧ Ex w w' ∧ Row w.heap.size w'.heap.size w' q cap' (pcR cs c) := by
  have Hz := Lib.hid hz
  clear hz
  cases h : pcB cs c
  · have hR : pcR cs c = [] := by simp [pcR, h]
    rw [hR]
    have HB := Lib.hid h
    clear hR h
    cases h1 : handB cs
    all_goals cases h2 : ok c
    all_goals cases h3 : hasB cs c
    all_goals by_cases h4 : cs.length < 27
    all_goals first
      | (exfalso; have := HB.out; simp [pcB, h1, h2, h3, h4] at this; done)
      | (have h5 : (27 : Int) ≤ (cs.length : Int) := by omega
         (try have h6 : (cs.length : Int) = 27 := by have := (handB_ok h1).2; omega)
         go_enter Try.func19, Try.ntmps19
         go_wp2_with (first | (go_at_call 45; refine (l2Hand_c _ _ _ _ (by omega) (Hz.out.ex (by repeat (first | exact Ex.refl _ | refine Ex.ext ?_ _ | refine Ex.alloc ?_ _ | refine Ex.drew ?_)))).mono ?_; rintro e w' ⟨rfl, x, rfl⟩; rw [h1]) | (go_at_call 40; refine (l2Card_c _ _).mono ?_; rintro e w' ⟨rfl, x, rfl⟩; rw [h2]) | (go_at_call 46; refine (l2Has_c _ _ _ _ _ (by omega) (Hz.out.ex (by repeat (first | exact Ex.refl _ | refine Ex.ext ?_ _ | refine Ex.alloc ?_ _ | refine Ex.drew ?_)))).mono ?_; rintro e w' ⟨rfl, x, rfl⟩; rw [h3]))
         go_ret2
         exact ⟨some ⟨_, 0, none⟩, 0, by simp [ext_size], by repeat (first | exact Ex.refl _ | refine Ex.ext ?_ _ | refine Ex.alloc ?_ _ | refine Ex.drew ?_), (Row.empty _).mono (by first | (simp; done) | (simp [ext_size]; done) | (simp [ext_size]; omega) | omega) (by first | (simp; done) | (simp [ext_size]; done) | (simp [ext_size]; omega) | omega)⟩)
      | (have h5 : ¬ (27 : Int) ≤ (cs.length : Int) := by omega
         have h6 : ¬ (cs.length : Int) = 27 := by omega
         go_enter Try.func19, Try.ntmps19
         go_wp2_with (first | (go_at_call 45; refine (l2Hand_c _ _ _ _ (by omega) (Hz.out.ex (by repeat (first | exact Ex.refl _ | refine Ex.ext ?_ _ | refine Ex.alloc ?_ _ | refine Ex.drew ?_)))).mono ?_; rintro e w' ⟨rfl, x, rfl⟩; rw [h1]) | (go_at_call 40; refine (l2Card_c _ _).mono ?_; rintro e w' ⟨rfl, x, rfl⟩; rw [h2]) | (go_at_call 46; refine (l2Has_c _ _ _ _ _ (by omega) (Hz.out.ex (by repeat (first | exact Ex.refl _ | refine Ex.ext ?_ _ | refine Ex.alloc ?_ _ | refine Ex.drew ?_)))).mono ?_; rintro e w' ⟨rfl, x, rfl⟩; rw [h3]))
         go_ret2
         exact ⟨some ⟨_, 0, none⟩, 0, by simp [ext_size], by repeat (first | exact Ex.refl _ | refine Ex.ext ?_ _ | refine Ex.alloc ?_ _ | refine Ex.drew ?_), (Row.empty _).mono (by first | (simp; done) | (simp [ext_size]; done) | (simp [ext_size]; omega) | omega) (by first | (simp; done) | (simp [ext_size]; done) | (simp [ext_size]; omega) | omega)⟩)
  · have h' := h
    simp only [pcB, Bool.and_eq_true, Bool.not_eq_true', decide_eq_true_iff] at h'
    obtain ⟨h1, h2, h3, h4⟩ := h'
    have hR : pcR cs c = putC cs c := by simp [pcR, h]
    rw [hR]
    clear hR h
    have Hh := Lib.hid (handB_ok h1)
    have Hok := Lib.hid Hh.out.1
    have Hc := Lib.hid ((ok_iff c).1 h2)
    have h5 : ¬ (27 : Int) ≤ (cs.length : Int) := by omega
    have h6 : ¬ (cs.length : Int) = 27 := by omega
    go_enter Try.func19, Try.ntmps19
    go_wp2_with (first | (first | (go_at_call 45; refine (l2Hand_c _ _ _ _ (by omega) (Hz.out.ex (by repeat (first | exact Ex.refl _ | refine Ex.ext ?_ _ | refine Ex.alloc ?_ _ | refine Ex.drew ?_)))).mono ?_; rintro e w' ⟨rfl, x, rfl⟩; rw [h1]) | (go_at_call 40; refine (l2Card_c _ _).mono ?_; rintro e w' ⟨rfl, x, rfl⟩; rw [h2]) | (go_at_call 46; refine (l2Has_c _ _ _ _ _ (by omega) (Hz.out.ex (by repeat (first | exact Ex.refl _ | refine Ex.ext ?_ _ | refine Ex.alloc ?_ _ | refine Ex.drew ?_)))).mono ?_; rintro e w' ⟨rfl, x, rfl⟩; rw [h3])) | (go_at_call 47; refine (l2Put_c _ _ _ _ _ _ hn hcap Hok.out Hc.out (Hz.out.ex (by repeat (first | exact Ex.refl _ | refine Ex.ext ?_ _ | refine Ex.alloc ?_ _ | refine Ex.drew ?_)))).mono ?_; rintro e w1 ⟨g, cap', rfl, hx, hr⟩))
    go_ret2
    exact ⟨some ⟨g, 0, none⟩, cap', rfl, Ex.trans (by repeat (first | exact Ex.refl _ | refine Ex.ext ?_ _ | refine Ex.alloc ?_ _ | refine Ex.drew ?_)) hx, (hr.low (Ex.below (show Ex w _ by exact by repeat (first | exact Ex.refl _ | refine Ex.ext ?_ _ | refine Ex.alloc ?_ _ | refine Ex.drew ?_))).size).row rfl⟩

theorem implPutCard_c (cs : List C4) (c : C4) (b : Nat) (cap : Nat) (w : World) (hn : cs.length ≤ 100000000) (hcap : cs.length ≤ cap) (hz : Sl w (some ⟨b, 0, none⟩) cs) :
    Calls Try.prog 21 #[.slice (some ⟨b, 0, none⟩) cs.length cap, .agg #[.int .i64 c.a, .int .i64 c.b, .int .i64 c.c, .int .i64 c.d]] w fun e w' => ∃ q cap', e = .returned (.tuple #[.slice q (pcR cs c).length cap', .bool (pcB cs c)]) ∧ Ex w w' ∧ Row w.heap.size w'.heap.size w' q cap' (pcR cs c) := by
  have Hz := Lib.hid hz
  clear hz
  cases h : pcB cs c
  · have hR : pcR cs c = [] := by simp [pcR, h]
    rw [hR]
    have HB := Lib.hid h
    clear hR h
    cases h1 : handB cs
    all_goals cases h2 : ok c
    all_goals cases h3 : hasB cs c
    all_goals by_cases h4 : cs.length < 27
    all_goals first
      | (exfalso; have := HB.out; simp [pcB, h1, h2, h3, h4] at this; done)
      | (have h5 : (27 : Int) ≤ (cs.length : Int) := by omega
         (try have h6 : (cs.length : Int) = 27 := by have := (handB_ok h1).2; omega)
         go_enter Try.func21, Try.ntmps21
         go_wp2_with (first | (go_at_call 48; refine (implIsHand_c _ _ _ _ (by omega) (Hz.out.ex (by repeat (first | exact Ex.refl _ | refine Ex.ext ?_ _ | refine Ex.alloc ?_ _ | refine Ex.drew ?_)))).mono ?_; rintro e w' ⟨rfl, x, rfl⟩; rw [h1]) | (go_at_call 49; refine (implIsCard_c _ _).mono ?_; rintro e w' ⟨rfl, x, rfl⟩; rw [h2]) | (go_at_call 50; refine (has_c _ _ _ _ _ (by omega) (Hz.out.ex (by repeat (first | exact Ex.refl _ | refine Ex.ext ?_ _ | refine Ex.alloc ?_ _ | refine Ex.drew ?_)))).mono ?_; rintro e w' ⟨rfl, x, rfl⟩; rw [h3]))
         go_ret2
         exact ⟨none, 0, rfl, by repeat (first | exact Ex.refl _ | refine Ex.ext ?_ _ | refine Ex.alloc ?_ _ | refine Ex.drew ?_), Row.nil _ _ _⟩)
      | (have h5 : ¬ (27 : Int) ≤ (cs.length : Int) := by omega
         have h6 : ¬ (cs.length : Int) = 27 := by omega
         go_enter Try.func21, Try.ntmps21
         go_wp2_with (first | (go_at_call 48; refine (implIsHand_c _ _ _ _ (by omega) (Hz.out.ex (by repeat (first | exact Ex.refl _ | refine Ex.ext ?_ _ | refine Ex.alloc ?_ _ | refine Ex.drew ?_)))).mono ?_; rintro e w' ⟨rfl, x, rfl⟩; rw [h1]) | (go_at_call 49; refine (implIsCard_c _ _).mono ?_; rintro e w' ⟨rfl, x, rfl⟩; rw [h2]) | (go_at_call 50; refine (has_c _ _ _ _ _ (by omega) (Hz.out.ex (by repeat (first | exact Ex.refl _ | refine Ex.ext ?_ _ | refine Ex.alloc ?_ _ | refine Ex.drew ?_)))).mono ?_; rintro e w' ⟨rfl, x, rfl⟩; rw [h3]))
         go_ret2
         exact ⟨none, 0, rfl, by repeat (first | exact Ex.refl _ | refine Ex.ext ?_ _ | refine Ex.alloc ?_ _ | refine Ex.drew ?_), Row.nil _ _ _⟩)
  · have h' := h
    simp only [pcB, Bool.and_eq_true, Bool.not_eq_true', decide_eq_true_iff] at h'
    obtain ⟨h1, h2, h3, h4⟩ := h'
    have hR : pcR cs c = putC cs c := by simp [pcR, h]
    rw [hR]
    clear hR h
    have Hh := Lib.hid (handB_ok h1)
    have Hok := Lib.hid Hh.out.1
    have Hc := Lib.hid ((ok_iff c).1 h2)
    have h5 : ¬ (27 : Int) ≤ (cs.length : Int) := by omega
    have h6 : ¬ (cs.length : Int) = 27 := by omega
    have Hp := Lib.hid (show sortU (cs ++ [c]) = putC cs c by rw [sortU_snoc, sortU_asc ((handB_iff cs).1 h1).1])
    have Hok2 := Lib.hid (show ∀ z ∈ cs ++ [c], Ok z from fun z hz => by
      rcases List.mem_append.1 hz with h | h
      · exact Hok.out z h
      · rw [List.mem_singleton.1 h]; exact Hc.out)
    have Hl := Lib.hid (show (cs ++ [c]).length = cs.length + 1 by simp)
    go_enter Try.func21, Try.ntmps21
    go_upto_region 3 with (first | (go_at_call 48; refine (implIsHand_c _ _ _ _ (by omega) (Hz.out.ex (by repeat (first | exact Ex.refl _ | refine Ex.ext ?_ _ | refine Ex.alloc ?_ _ | refine Ex.drew ?_)))).mono ?_; rintro e w' ⟨rfl, x, rfl⟩; rw [h1]) | (go_at_call 49; refine (implIsCard_c _ _).mono ?_; rintro e w' ⟨rfl, x, rfl⟩; rw [h2]) | (go_at_call 50; refine (has_c _ _ _ _ _ (by omega) (Hz.out.ex (by repeat (first | exact Ex.refl _ | refine Ex.ext ?_ _ | refine Ex.alloc ?_ _ | refine Ex.drew ?_)))).mono ?_; rintro e w' ⟨rfl, x, rfl⟩; rw [h3]))
    (try simp only [ext_ext])
    generalize hw0 : (ext (w.alloc (.cells #[.int .i64 c.a, .int .i64 c.b, .int .i64 c.c, .int .i64 c.d] 29)) _) = w0
    have hE0 : Ex (w.alloc (.cells #[.int .i64 c.a, .int .i64 c.b, .int .i64 c.c, .int .i64 c.d] 29)) w0 := ⟨_, hw0.symm⟩
    clear hw0
    have hB4 := Box4.new w c.a c.b c.c c.d
    have hEB : Ex w (w.alloc (.cells #[.int .i64 c.a, .int .i64 c.b, .int .i64 c.c, .int .i64 c.d] 29)) := by repeat (first | exact Ex.refl _ | refine Ex.ext ?_ _ | refine Ex.alloc ?_ _ | refine Ex.drew ?_)
    generalize (w.alloc (.cells #[.int .i64 c.a, .int .i64 c.b, .int .i64 c.c, .int .i64 c.d] 29)) = wB at *
    obtain ⟨b0, c0, cc1, c2, c3⟩ := hB4.ex hE0
    have hEw : Ex w w0 := Ex.trans hEB hE0
    go_region_held3 (fun w' => w'.cell? ⟨w.heap.size, 0, none⟩ = some (.int .i64 c.a) ∧ w'.cell? ⟨w.heap.size, 1, none⟩ = some (.int .i64 c.b) ∧ w'.cell? ⟨w.heap.size, 2, none⟩ = some (.int .i64 c.c) ∧ w'.cell? ⟨w.heap.size, 3, none⟩ = some (.int .i64 c.d))
      (first | go_keep | (have hq4 := hB4.ex (by assumption); exact ⟨hq4.c0, hq4.c1, hq4.c2, hq4.c3⟩))
      (first | (go_at_call 51; refine (clone_v rfl (by omega) (Hz.out.ex (hEw.trans (by exact by repeat (first | exact Ex.refl _ | refine Ex.ext ?_ _ | refine Ex.alloc ?_ _ | refine Ex.drew ?_))))).mono ?_; rintro e w1 ⟨g1, c1, rfl, hx, hr1⟩; have hown := own_base hr1 (Ex.below (hE0.trans (by exact by repeat (first | exact Ex.refl _ | refine Ex.ext ?_ _ | refine Ex.alloc ?_ _ | refine Ex.drew ?_)))).size; have hE := Ex.trans (hE0.trans (by exact by repeat (first | exact Ex.refl _ | refine Ex.ext ?_ _ | refine Ex.alloc ?_ _ | refine Ex.drew ?_))) hx) |
        (refine step_appsN (W0 := wB) rfl (hE.trans (by exact by repeat (first | exact Ex.refl _ | refine Ex.ext ?_ _ | refine Ex.alloc ?_ _ | refine Ex.drew ?_))) (by rfl) _ _ (by rfl) (.slice (some ⟨g1, 0, none⟩) cs.length c1) cs.length cs (by rfl) (own_exx hown (by exact by repeat (first | exact Ex.refl _ | refine Ex.ext ?_ _ | refine Ex.alloc ?_ _ | refine Ex.drew ?_))) 1 [c] (by rfl) (Or.inr ⟨_, 0, 1, rfl, by first | (refine sl_one ?_ ?_ ?_ ?_ ?_ <;> (go_simp; done)) | (refine Sl.ex ?_ (hx.trans (by exact by repeat (first | exact Ex.refl _ | refine Ex.ext ?_ _ | refine Ex.alloc ?_ _ | refine Ex.drew ?_))); refine sl_one ?_ ?_ ?_ ?_ ?_ <;> (go_simp; done))⟩) (by omega) ?_; intro p2 c2 w2 hown2 hp2 hnn2 hE2; obtain ⟨g2, rfl, hr2⟩ := own_some hown2 (fun e => by have := (hnn2 e).2; simp at this)) |
        (go_at_call 43; refine (sorted_n Hl.out Hp.out (by omega) Hok2.out ((hr2.row Hl.out.symm).sl.ex (by exact by repeat (first | exact Ex.refl _ | refine Ex.ext ?_ _ | refine Ex.alloc ?_ _ | refine Ex.drew ?_)))).mono ?_; rintro e w3 ⟨g3, c3, rfl, hx3, hr3⟩; have hE3 := Ex.trans (hE2.trans (by exact by repeat (first | exact Ex.refl _ | refine Ex.ext ?_ _ | refine Ex.alloc ?_ _ | refine Ex.drew ?_))) hx3; have hr3 := hr3.low (Ex.below (hEB.trans (hE2.trans (by exact by repeat (first | exact Ex.refl _ | refine Ex.ext ?_ _ | refine Ex.alloc ?_ _ | refine Ex.drew ?_))))).size))
    all_goals
      go_wp2
      go_ret2
      exact ⟨some ⟨g3, 0, none⟩, c3, rfl, hEB.trans hE3, hr3.row rfl⟩

theorem fnExactPutCard_walk (w : World) (p : Option Addr) (cs : List C4) (cap : Nat) (hl : cs.length ≤ maxLen) (hz : Sl w p cs) (c : C4) : Calls Try.prog 4 #[.slice p cs.length cap, .agg #[.int .i64 c.a, .int .i64 c.b, .int .i64 c.c, .int .i64 c.d]] w fun e w' => e = .returned (.bool true) ∧ Below w.heap.size w w' := by
  unfold maxLen at hl
  have hB : Below w.heap.size w (w.alloc (.cells #[.int .i64 c.a, .int .i64 c.b, .int .i64 c.c, .int .i64 c.d] 29)) := Ex.below (by exact by repeat (first | exact Ex.refl _ | refine Ex.ext ?_ _ | refine Ex.alloc ?_ _ | refine Ex.drew ?_))
  have hb : Box4 (w.alloc (.cells #[.int .i64 c.a, .int .i64 c.b, .int .i64 c.c, .int .i64 c.d] 29)) w.heap.size c.a c.b c.c c.d := Box4.new w _ _ _ _
  by_cases hs : cs.length ≤ 1048576
  · have h3 : ¬ ((1048576 : Int) - cs.length < 0) := by omega
    go_enter Try.func4, Try.ntmps4
    go_wp2_with (go_at_call 12; refine (sz_c _ _ _ _ (by omega) (by omega) (by omega) _).mono ?_; rintro e w1 ⟨rfl, hx⟩; rw [szSmall hs]; have hb := hb.ex hx; have hB := below_ex hB hx; have hs1 := Lib.hid hx.below.size; have hq1 := Lib.hid (alloc_sz_of hx); clear hx; obtain ⟨b0, b1, b2, b3, b4⟩ := id hb)
    have hlen := pcR_len cs c
    go_region_held3 (fun w' => w'.cell? ⟨w.heap.size, 0, none⟩ = some (.int .i64 c.a) ∧ w'.cell? ⟨w.heap.size, 1, none⟩ = some (.int .i64 c.b) ∧ w'.cell? ⟨w.heap.size, 2, none⟩ = some (.int .i64 c.c) ∧ w'.cell? ⟨w.heap.size, 3, none⟩ = some (.int .i64 c.d))
      (first | exact ⟨hb.c0, hb.c1, hb.c2, hb.c3⟩ | exact ⟨(hb.ex ((Ex.refl _).drew)).c0, (hb.ex ((Ex.refl _).drew)).c1, (hb.ex ((Ex.refl _).drew)).c2, (hb.ex ((Ex.refl _).drew)).c3⟩)
      (first | (go_at_call 14; refine (toA4S_o _ _ _ _ (by omega) (hz.below (by first | exact hB | exact below_ex hB ((Ex.refl _).drew)))).mono ?_; rintro e w2 ⟨gra, rfl, hx, ra⟩; have hq2 := Lib.hid (drew_sz w1); have hb := hb.ex (Ex.trans (by exact by repeat (first | exact Ex.refl _ | refine Ex.ext ?_ _ | refine Ex.alloc ?_ _ | refine Ex.drew ?_)) hx); have hB := below_ex hB (Ex.trans (by exact by repeat (first | exact Ex.refl _ | refine Ex.ext ?_ _ | refine Ex.alloc ?_ _ | refine Ex.drew ?_)) hx); have hs2 := Lib.hid hx.below.size; clear hx; (try clear b0 b1 b2 b3 b4); obtain ⟨b0, b1, b2, b3, b4⟩ := id hb) |
        (go_at_call 20; refine (toA4_c _ _).mono ?_; rintro e w3 ⟨rfl, hx⟩; have ra := ra.ex (Ex.trans (by exact by repeat (first | exact Ex.refl _ | refine Ex.ext ?_ _ | refine Ex.alloc ?_ _ | refine Ex.drew ?_)) hx); have hb := hb.ex (Ex.trans (by exact by repeat (first | exact Ex.refl _ | refine Ex.ext ?_ _ | refine Ex.alloc ?_ _ | refine Ex.drew ?_)) hx); have hB := below_ex hB (Ex.trans (by exact by repeat (first | exact Ex.refl _ | refine Ex.ext ?_ _ | refine Ex.alloc ?_ _ | refine Ex.drew ?_)) hx); have hs3 := Lib.hid hx.below.size; clear hx; (try clear b0 b1 b2 b3 b4); obtain ⟨b0, b1, b2, b3, b4⟩ := id hb) |
        (go_at_call 19; refine (specPutCard_c _ _ _ _ _ (by omega) (by omega) ra.sl).mono ?_; rintro e w4 ⟨qw, cw, rfl, hx, rw0⟩; have hb := hb.ex (Ex.trans (by exact by repeat (first | exact Ex.refl _ | refine Ex.ext ?_ _ | refine Ex.alloc ?_ _ | refine Ex.drew ?_)) hx); have hB := below_ex hB (Ex.trans (by exact by repeat (first | exact Ex.refl _ | refine Ex.ext ?_ _ | refine Ex.alloc ?_ _ | refine Ex.drew ?_)) hx); have hs4 := Lib.hid hx.below.size; clear hx; (try clear b0 b1 b2 b3 b4); obtain ⟨b0, b1, b2, b3, b4⟩ := id hb))
    go_wp2_with (go_at_call 14; refine (toA4S_o _ _ _ _ (by omega) (hz.below (by first | exact hB | exact below_ex hB ((Ex.refl _).drew)))).mono ?_; rintro e w5 ⟨grx, rfl, hx, rx⟩; have rw0 := rw0.ex (Ex.trans (by exact by repeat (first | exact Ex.refl _ | refine Ex.ext ?_ _ | refine Ex.alloc ?_ _ | refine Ex.drew ?_)) hx); have hb := hb.ex (Ex.trans (by exact by repeat (first | exact Ex.refl _ | refine Ex.ext ?_ _ | refine Ex.alloc ?_ _ | refine Ex.drew ?_)) hx); have hB := below_ex hB (Ex.trans (by exact by repeat (first | exact Ex.refl _ | refine Ex.ext ?_ _ | refine Ex.alloc ?_ _ | refine Ex.drew ?_)) hx); have hs5 := Lib.hid hx.below.size; clear hx; (try clear b0 b1 b2 b3 b4); obtain ⟨b0, b1, b2, b3, b4⟩ := id hb)
    go_wp2_with (first | (go_at_call 20; refine (toA4_c _ _).mono ?_; rintro e w6 ⟨rfl, hx⟩; have rw0 := rw0.ex (Ex.trans (by exact by repeat (first | exact Ex.refl _ | refine Ex.ext ?_ _ | refine Ex.alloc ?_ _ | refine Ex.drew ?_)) hx); have rx := rx.ex (Ex.trans (by exact by repeat (first | exact Ex.refl _ | refine Ex.ext ?_ _ | refine Ex.alloc ?_ _ | refine Ex.drew ?_)) hx); have hb := hb.ex (Ex.trans (by exact by repeat (first | exact Ex.refl _ | refine Ex.ext ?_ _ | refine Ex.alloc ?_ _ | refine Ex.drew ?_)) hx); have hB := below_ex hB (Ex.trans (by exact by repeat (first | exact Ex.refl _ | refine Ex.ext ?_ _ | refine Ex.alloc ?_ _ | refine Ex.drew ?_)) hx); have hs6 := Lib.hid hx.below.size; clear hx; (try clear b0 b1 b2 b3 b4); obtain ⟨b0, b1, b2, b3, b4⟩ := id hb) | (go_at_call 21; refine (implPutCard_c _ _ _ _ _ (by omega) (by omega) rx.sl).mono ?_; rintro e w7 ⟨qg, cg, rfl, hx, rg⟩; have rw0 := rw0.ex (Ex.trans (by exact by repeat (first | exact Ex.refl _ | refine Ex.ext ?_ _ | refine Ex.alloc ?_ _ | refine Ex.drew ?_)) hx); have rx := rx.ex (Ex.trans (by exact by repeat (first | exact Ex.refl _ | refine Ex.ext ?_ _ | refine Ex.alloc ?_ _ | refine Ex.drew ?_)) hx); have hb := hb.ex (Ex.trans (by exact by repeat (first | exact Ex.refl _ | refine Ex.ext ?_ _ | refine Ex.alloc ?_ _ | refine Ex.drew ?_)) hx); have hB := below_ex hB (Ex.trans (by exact by repeat (first | exact Ex.refl _ | refine Ex.ext ?_ _ | refine Ex.alloc ?_ _ | refine Ex.drew ?_)) hx); have hs7 := Lib.hid hx.below.size; clear hx; (try clear b0 b1 b2 b3 b4); obtain ⟨b0, b1, b2, b3, b4⟩ := id hb))
    go_wp2_with (go_at_call 16; refine (eqA4S_c _ _ _ _ _ _ _ (by omega) (by omega) rg.sl rw0.sl).mono ?_; rintro e w8 ⟨rfl, hx⟩; have rw0 := rw0.ex (Ex.trans (by exact by repeat (first | exact Ex.refl _ | refine Ex.ext ?_ _ | refine Ex.alloc ?_ _ | refine Ex.drew ?_)) hx); have rx := rx.ex (Ex.trans (by exact by repeat (first | exact Ex.refl _ | refine Ex.ext ?_ _ | refine Ex.alloc ?_ _ | refine Ex.drew ?_)) hx); have rg := rg.ex (Ex.trans (by exact by repeat (first | exact Ex.refl _ | refine Ex.ext ?_ _ | refine Ex.alloc ?_ _ | refine Ex.drew ?_)) hx); have hb := hb.ex (Ex.trans (by exact by repeat (first | exact Ex.refl _ | refine Ex.ext ?_ _ | refine Ex.alloc ?_ _ | refine Ex.drew ?_)) hx); have hB := below_ex hB (Ex.trans (by exact by repeat (first | exact Ex.refl _ | refine Ex.ext ?_ _ | refine Ex.alloc ?_ _ | refine Ex.drew ?_)) hx); have hs8 := Lib.hid hx.below.size; clear hx; (try clear b0 b1 b2 b3 b4); obtain ⟨b0, b1, b2, b3, b4⟩ := id hb)
    go_wp2_with (go_at_call 14; refine (toA4S_o _ _ _ _ (by omega) (hz.below (by first | exact hB | exact below_ex hB ((Ex.refl _).drew)))).mono ?_; rintro e w9 ⟨gry, rfl, hx, ry⟩; have rw0 := rw0.ex (Ex.trans (by exact by repeat (first | exact Ex.refl _ | refine Ex.ext ?_ _ | refine Ex.alloc ?_ _ | refine Ex.drew ?_)) hx); have rx := rx.ex (Ex.trans (by exact by repeat (first | exact Ex.refl _ | refine Ex.ext ?_ _ | refine Ex.alloc ?_ _ | refine Ex.drew ?_)) hx); have rg := rg.ex (Ex.trans (by exact by repeat (first | exact Ex.refl _ | refine Ex.ext ?_ _ | refine Ex.alloc ?_ _ | refine Ex.drew ?_)) hx); have hb := hb.ex (Ex.trans (by exact by repeat (first | exact Ex.refl _ | refine Ex.ext ?_ _ | refine Ex.alloc ?_ _ | refine Ex.drew ?_)) hx); have hB := below_ex hB (Ex.trans (by exact by repeat (first | exact Ex.refl _ | refine Ex.ext ?_ _ | refine Ex.alloc ?_ _ | refine Ex.drew ?_)) hx); have hs9 := Lib.hid hx.below.size; clear hx; (try clear b0 b1 b2 b3 b4); obtain ⟨b0, b1, b2, b3, b4⟩ := id hb)
    go_wp2_with (go_at_call 16; refine (eqA4S_c _ _ _ _ _ _ _ (by omega) (by omega) rx.sl ry.sl).mono ?_; rintro e w10 ⟨rfl, hx⟩; have rw0 := rw0.ex (Ex.trans (by exact by repeat (first | exact Ex.refl _ | refine Ex.ext ?_ _ | refine Ex.alloc ?_ _ | refine Ex.drew ?_)) hx); have rx := rx.ex (Ex.trans (by exact by repeat (first | exact Ex.refl _ | refine Ex.ext ?_ _ | refine Ex.alloc ?_ _ | refine Ex.drew ?_)) hx); have rg := rg.ex (Ex.trans (by exact by repeat (first | exact Ex.refl _ | refine Ex.ext ?_ _ | refine Ex.alloc ?_ _ | refine Ex.drew ?_)) hx); have ry := ry.ex (Ex.trans (by exact by repeat (first | exact Ex.refl _ | refine Ex.ext ?_ _ | refine Ex.alloc ?_ _ | refine Ex.drew ?_)) hx); have hb := hb.ex (Ex.trans (by exact by repeat (first | exact Ex.refl _ | refine Ex.ext ?_ _ | refine Ex.alloc ?_ _ | refine Ex.drew ?_)) hx); have hB := below_ex hB (Ex.trans (by exact by repeat (first | exact Ex.refl _ | refine Ex.ext ?_ _ | refine Ex.alloc ?_ _ | refine Ex.drew ?_)) hx); have hs10 := Lib.hid hx.below.size; clear hx; (try clear b0 b1 b2 b3 b4); obtain ⟨b0, b1, b2, b3, b4⟩ := id hb)
    go_wp2_with (go_at_call 17; refine (markA4S_c _ _ _ _ _ _ _ (by omega) (by omega) (by omega) rx).mono ?_; rintro e w11 ⟨rfl, rx, ha⟩; have rw0 := ha.row rw0 (Or.inl (by have := hs1.out; have := hs2.out; have := hs3.out; have := hs4.out; have := hs5.out; have := hs6.out; have := hs7.out; have := hs8.out; have := hs9.out; have := hs10.out; have := hq1.out; (try have := hq2.out); (try have := hq3.out); (try have := hq4.out); (try have := hq5.out); (try have := hq6.out); (try have := hq7.out); (try have := hq8.out); (try have := hq9.out); (try have := hq10.out); omega)); have rg := ha.row rg (Or.inr (by have := hs1.out; have := hs2.out; have := hs3.out; have := hs4.out; have := hs5.out; have := hs6.out; have := hs7.out; have := hs8.out; have := hs9.out; have := hs10.out; have := hq1.out; (try have := hq2.out); (try have := hq3.out); (try have := hq4.out); (try have := hq5.out); (try have := hq6.out); (try have := hq7.out); (try have := hq8.out); (try have := hq9.out); (try have := hq10.out); omega)); have hb := hb.apart ha (by have := hs1.out; have := hs2.out; have := hs3.out; have := hs4.out; have := hs5.out; have := hs6.out; have := hs7.out; have := hs8.out; have := hs9.out; have := hs10.out; have := hq1.out; (try have := hq2.out); (try have := hq3.out); (try have := hq4.out); (try have := hq5.out); (try have := hq6.out); (try have := hq7.out); (try have := hq8.out); (try have := hq9.out); (try have := hq10.out); omega); have hB := below_apart hB ha (by have := hs1.out; have := hs2.out; have := hs3.out; have := hs4.out; have := hs5.out; have := hs6.out; have := hs7.out; have := hs8.out; have := hs9.out; have := hs10.out; have := hq1.out; (try have := hq2.out); (try have := hq3.out); (try have := hq4.out); (try have := hq5.out); (try have := hq6.out); (try have := hq7.out); (try have := hq8.out); (try have := hq9.out); (try have := hq10.out); omega); have hs11 := Lib.hid ha.size; clear ha b0 b1 b2 b3 b4; obtain ⟨b0, b1, b2, b3, b4⟩ := id hb)
    go_wp2_with (go_at_call 16; refine (eqA4S_c _ _ _ _ _ _ _ (by omega) (by omega) rg.sl rw0.sl).mono ?_; rintro e w12 ⟨rfl, hx⟩; have rw0 := rw0.ex (Ex.trans (by exact by repeat (first | exact Ex.refl _ | refine Ex.ext ?_ _ | refine Ex.alloc ?_ _ | refine Ex.drew ?_)) hx); have rg := rg.ex (Ex.trans (by exact by repeat (first | exact Ex.refl _ | refine Ex.ext ?_ _ | refine Ex.alloc ?_ _ | refine Ex.drew ?_)) hx); have hb := hb.ex (Ex.trans (by exact by repeat (first | exact Ex.refl _ | refine Ex.ext ?_ _ | refine Ex.alloc ?_ _ | refine Ex.drew ?_)) hx); have hB := below_ex hB (Ex.trans (by exact by repeat (first | exact Ex.refl _ | refine Ex.ext ?_ _ | refine Ex.alloc ?_ _ | refine Ex.drew ?_)) hx); have hs12 := Lib.hid hx.below.size; clear hx; (try clear b0 b1 b2 b3 b4); obtain ⟨b0, b1, b2, b3, b4⟩ := id hb)
    go_wp2_with (go_at_call 17; refine (markA4S_c _ _ _ _ _ _ _ (by omega) (by omega) (by omega) rg).mono ?_; rintro e w13 ⟨rfl, rg, ha⟩; have rw0 := ha.row rw0 (Or.inl (by have := hs1.out; have := hs2.out; have := hs3.out; have := hs4.out; have := hs5.out; have := hs6.out; have := hs7.out; have := hs8.out; have := hs9.out; have := hs10.out; have := hs11.out; have := hs12.out; have := hq1.out; (try have := hq2.out); (try have := hq3.out); (try have := hq4.out); (try have := hq5.out); (try have := hq6.out); (try have := hq7.out); (try have := hq8.out); (try have := hq9.out); (try have := hq10.out); (try have := hq11.out); (try have := hq12.out); omega)); have hb := hb.apart ha (by have := hs1.out; have := hs2.out; have := hs3.out; have := hs4.out; have := hs5.out; have := hs6.out; have := hs7.out; have := hs8.out; have := hs9.out; have := hs10.out; have := hs11.out; have := hs12.out; have := hq1.out; (try have := hq2.out); (try have := hq3.out); (try have := hq4.out); (try have := hq5.out); (try have := hq6.out); (try have := hq7.out); (try have := hq8.out); (try have := hq9.out); (try have := hq10.out); (try have := hq11.out); (try have := hq12.out); omega); have hB := below_apart hB ha (by have := hs1.out; have := hs2.out; have := hs3.out; have := hs4.out; have := hs5.out; have := hs6.out; have := hs7.out; have := hs8.out; have := hs9.out; have := hs10.out; have := hs11.out; have := hs12.out; have := hq1.out; (try have := hq2.out); (try have := hq3.out); (try have := hq4.out); (try have := hq5.out); (try have := hq6.out); (try have := hq7.out); (try have := hq8.out); (try have := hq9.out); (try have := hq10.out); (try have := hq11.out); (try have := hq12.out); omega); have hs13 := Lib.hid ha.size; clear ha b0 b1 b2 b3 b4; obtain ⟨b0, b1, b2, b3, b4⟩ := id hb)
    go_wp2_with (go_at_call 18; refine (heldA4S_c _ _ _ _ _ (by omega) (by omega) (by omega) rg.sl).mono ?_; rintro e w14 ⟨rfl, hx⟩; have rw0 := rw0.ex (Ex.trans (by exact by repeat (first | exact Ex.refl _ | refine Ex.ext ?_ _ | refine Ex.alloc ?_ _ | refine Ex.drew ?_)) hx); have rg := rg.ex (Ex.trans (by exact by repeat (first | exact Ex.refl _ | refine Ex.ext ?_ _ | refine Ex.alloc ?_ _ | refine Ex.drew ?_)) hx); have hb := hb.ex (Ex.trans (by exact by repeat (first | exact Ex.refl _ | refine Ex.ext ?_ _ | refine Ex.alloc ?_ _ | refine Ex.drew ?_)) hx); have hB := below_ex hB (Ex.trans (by exact by repeat (first | exact Ex.refl _ | refine Ex.ext ?_ _ | refine Ex.alloc ?_ _ | refine Ex.drew ?_)) hx); have hs14 := Lib.hid hx.below.size; clear hx; (try clear b0 b1 b2 b3 b4); obtain ⟨b0, b1, b2, b3, b4⟩ := id hb)
    go_region_held3 (fun w' => w'.cell? ⟨w.heap.size, 0, none⟩ = some (.int .i64 c.a) ∧ w'.cell? ⟨w.heap.size, 1, none⟩ = some (.int .i64 c.b) ∧ w'.cell? ⟨w.heap.size, 2, none⟩ = some (.int .i64 c.c) ∧ w'.cell? ⟨w.heap.size, 3, none⟩ = some (.int .i64 c.d))
      (first | exact ⟨hb.c0, hb.c1, hb.c2, hb.c3⟩ | exact ⟨(hb.ex ((Ex.refl _).drew)).c0, (hb.ex ((Ex.refl _).drew)).c1, (hb.ex ((Ex.refl _).drew)).c2, (hb.ex ((Ex.refl _).drew)).c3⟩)
      (first | (go_at_call 14; refine (toA4S_o _ _ _ _ (by omega) (hz.below (by first | exact hB | exact below_ex hB ((Ex.refl _).drew)))).mono ?_; rintro e w15 ⟨grz, rfl, hx, rz⟩; have rw0 := rw0.ex (Ex.trans (by exact by repeat (first | exact Ex.refl _ | refine Ex.ext ?_ _ | refine Ex.alloc ?_ _ | refine Ex.drew ?_)) hx); have rg := rg.ex (Ex.trans (by exact by repeat (first | exact Ex.refl _ | refine Ex.ext ?_ _ | refine Ex.alloc ?_ _ | refine Ex.drew ?_)) hx); have hq15 := Lib.hid (drew_sz w14); have hb := hb.ex (Ex.trans (by exact by repeat (first | exact Ex.refl _ | refine Ex.ext ?_ _ | refine Ex.alloc ?_ _ | refine Ex.drew ?_)) hx); have hB := below_ex hB (Ex.trans (by exact by repeat (first | exact Ex.refl _ | refine Ex.ext ?_ _ | refine Ex.alloc ?_ _ | refine Ex.drew ?_)) hx); have hs15 := Lib.hid hx.below.size; clear hx; (try clear b0 b1 b2 b3 b4); obtain ⟨b0, b1, b2, b3, b4⟩ := id hb) |
        (go_at_call 20; refine (toA4_c _ _).mono ?_; rintro e w16 ⟨rfl, hx⟩; have rw0 := rw0.ex (Ex.trans (by exact by repeat (first | exact Ex.refl _ | refine Ex.ext ?_ _ | refine Ex.alloc ?_ _ | refine Ex.drew ?_)) hx); have rg := rg.ex (Ex.trans (by exact by repeat (first | exact Ex.refl _ | refine Ex.ext ?_ _ | refine Ex.alloc ?_ _ | refine Ex.drew ?_)) hx); have rz := rz.ex (Ex.trans (by exact by repeat (first | exact Ex.refl _ | refine Ex.ext ?_ _ | refine Ex.alloc ?_ _ | refine Ex.drew ?_)) hx); have hb := hb.ex (Ex.trans (by exact by repeat (first | exact Ex.refl _ | refine Ex.ext ?_ _ | refine Ex.alloc ?_ _ | refine Ex.drew ?_)) hx); have hB := below_ex hB (Ex.trans (by exact by repeat (first | exact Ex.refl _ | refine Ex.ext ?_ _ | refine Ex.alloc ?_ _ | refine Ex.drew ?_)) hx); have hs16 := Lib.hid hx.below.size; clear hx; (try clear b0 b1 b2 b3 b4); obtain ⟨b0, b1, b2, b3, b4⟩ := id hb) |
        (go_at_call 21; refine (implPutCard_c _ _ _ _ _ (by omega) (by omega) rz.sl).mono ?_; rintro e w17 ⟨qh, ch, rfl, hx, rh⟩; have rw0 := rw0.ex (Ex.trans (by exact by repeat (first | exact Ex.refl _ | refine Ex.ext ?_ _ | refine Ex.alloc ?_ _ | refine Ex.drew ?_)) hx); have rg := rg.ex (Ex.trans (by exact by repeat (first | exact Ex.refl _ | refine Ex.ext ?_ _ | refine Ex.alloc ?_ _ | refine Ex.drew ?_)) hx); have hb := hb.ex (Ex.trans (by exact by repeat (first | exact Ex.refl _ | refine Ex.ext ?_ _ | refine Ex.alloc ?_ _ | refine Ex.drew ?_)) hx); have hB := below_ex hB (Ex.trans (by exact by repeat (first | exact Ex.refl _ | refine Ex.ext ?_ _ | refine Ex.alloc ?_ _ | refine Ex.drew ?_)) hx); have hs17 := Lib.hid hx.below.size; clear hx; (try clear b0 b1 b2 b3 b4); obtain ⟨b0, b1, b2, b3, b4⟩ := id hb))
    go_wp2_with (go_at_call 16; refine (eqA4S_c _ _ _ _ _ _ _ (by omega) (by omega) rh.sl rw0.sl).mono ?_; rintro e w18 ⟨rfl, hx⟩; have rw0 := rw0.ex (Ex.trans (by exact by repeat (first | exact Ex.refl _ | refine Ex.ext ?_ _ | refine Ex.alloc ?_ _ | refine Ex.drew ?_)) hx); have rg := rg.ex (Ex.trans (by exact by repeat (first | exact Ex.refl _ | refine Ex.ext ?_ _ | refine Ex.alloc ?_ _ | refine Ex.drew ?_)) hx); have rh := rh.ex (Ex.trans (by exact by repeat (first | exact Ex.refl _ | refine Ex.ext ?_ _ | refine Ex.alloc ?_ _ | refine Ex.drew ?_)) hx); have hb := hb.ex (Ex.trans (by exact by repeat (first | exact Ex.refl _ | refine Ex.ext ?_ _ | refine Ex.alloc ?_ _ | refine Ex.drew ?_)) hx); have hB := below_ex hB (Ex.trans (by exact by repeat (first | exact Ex.refl _ | refine Ex.ext ?_ _ | refine Ex.alloc ?_ _ | refine Ex.drew ?_)) hx); have hs18 := Lib.hid hx.below.size; clear hx; (try clear b0 b1 b2 b3 b4); obtain ⟨b0, b1, b2, b3, b4⟩ := id hb)
    go_wp2_with (go_at_call 18; refine (heldA4S_c _ _ _ _ _ (by omega) (by omega) (by omega) rg.sl).mono ?_; rintro e w19 ⟨rfl, hx⟩; have rg := rg.ex (Ex.trans (by exact by repeat (first | exact Ex.refl _ | refine Ex.ext ?_ _ | refine Ex.alloc ?_ _ | refine Ex.drew ?_)) hx); have hb := hb.ex (Ex.trans (by exact by repeat (first | exact Ex.refl _ | refine Ex.ext ?_ _ | refine Ex.alloc ?_ _ | refine Ex.drew ?_)) hx); have hB := below_ex hB (Ex.trans (by exact by repeat (first | exact Ex.refl _ | refine Ex.ext ?_ _ | refine Ex.alloc ?_ _ | refine Ex.drew ?_)) hx); have hs19 := Lib.hid hx.below.size; clear hx; (try clear b0 b1 b2 b3 b4); obtain ⟨b0, b1, b2, b3, b4⟩ := id hb)
    go_ret
    exact ⟨rfl, hB⟩
  · go_enter Try.func4, Try.ntmps4
    go_wp2_with (go_at_call 12; refine (sz_c _ _ _ _ (by omega) (by omega) (by omega) _).mono ?_; rintro e w1 ⟨rfl, hx⟩; rw [szBig hs]; have hB := below_ex hB hx; clear hx)
    go_ret
    exact ⟨rfl, hB⟩
end Go.Proofs.Ytnjfkgggebhelaa
