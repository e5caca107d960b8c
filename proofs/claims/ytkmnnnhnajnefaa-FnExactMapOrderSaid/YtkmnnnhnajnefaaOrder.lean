/- The walks of isOrder: the numbers of a slice are collected, sorted, made compact, and counted. -/
import Derived.Test.YtkmnnnhnajnefaaIter
import Derived.Test.YtkmnnnhnajnefaaPerm
import Derived.Test.YtkmnnnhnajnefaaShelf
import Derived.Lib.OwnBridge
namespace Go.Proofs.Ytkmnnnhnajnefaa
set_option linter.unusedSimpArgs false
set_option linter.unusedVariables false
set_option maxHeartbeats 1000000
set_option maxRecDepth 100000
open Go.RowKit Go.Sort

theorem values_c (a : Option Addr) (len cap : Nat) (w : World) :
    Calls Try.prog 89 #[.slice a len cap] w fun e w' => e = .returned (.func (.func 100) #[] #[.pointer (some ⟨w.heap.size, 0, none⟩)]) ∧ w' = w.alloc (.cells #[.slice a len cap] 29) := by
  go_enter Try.func89, Try.ntmps89
  go_wp2
  go_ret
  exact ⟨rfl, rfl⟩
theorem SlI.getD {w : World} {b o : Nat} {zs : List Int} (h : SlI w (some ⟨b, o, none⟩) zs) : ∀ j, j < zs.length → w.cell? ⟨b, o + j, none⟩ = some (.int .i64 (zs[j]?.getD 0)) := fun j hj => by
  obtain ⟨b', o', e, _, h1⟩ := h j hj
  cases e
  rw [h1]; simp [hj]
theorem appendSeq_c (Bs b off cap : Nat) (zs : List Int) (hn : zs.length ≤ 1000) (w : World) (hBs : Bs < w.heap.size) (hb : b < w.heap.size) (hc : w.cell? ⟨Bs, 0, none⟩ = some (.slice (some ⟨b, off, none⟩) zs.length cap)) (hI : SlI w (some ⟨b, off, none⟩) zs) :
    Calls Try.prog 105 #[.slice none 0 0, .func (.func 100) #[] #[.pointer (some ⟨Bs, 0, none⟩)]] w fun e W' => ∃ v, e = .returned v ∧ W'.ownsRow w.heap.size 3 1 v zs.length (zs.map (Value.int .i64)) ∧ (v = .slice none 0 0 ↔ zs = []) ∧ Below w.heap.size w W' :=
  (callsIn_wide (n := 3)).1 (appendSeq_in Fence.wide 3 trivial trivial rfl (by omega) Bs b off cap zs (by unfold maxLen; omega) (by omega) w hBs hb hc hI.getD)

theorem collect_c (Bs b off cap : Nat) (zs : List Int) (hn : zs.length ≤ 1000) (h0 : zs ≠ []) (w : World) (hBs : Bs < w.heap.size) (hb : b < w.heap.size) (hc : w.cell? ⟨Bs, 0, none⟩ = some (.slice (some ⟨b, off, none⟩) zs.length cap)) (hI : SlI w (some ⟨b, off, none⟩) zs) :
    Calls Try.prog 98 #[.func (.func 100) #[] #[.pointer (some ⟨Bs, 0, none⟩)]] w fun e w' => ∃ g c, e = .returned (.slice (some ⟨g, 0, none⟩) zs.length c) ∧ Ex w w' ∧ RowV 3 1 w.heap.size w' g c zs.length (zs.map (Value.int .i64)) := by
  have H := Lib.hid (appendSeq_c Bs b off cap zs hn w hBs hb hc hI)
  clear hc hI
  go_enter Try.func98, Try.ntmps98
  go_wp2_with (go_at_call 105; refine H.out.mono ?_; rintro e w' ⟨v, rfl, hown, hnil, hB⟩)
  go_ret
  have hE : Ex w w' := Ex.of_below hB
  rcases hown.2 with ⟨h1, h2⟩ | ⟨g, c, cur, rfl, h3⟩
  · exact absurd (hnil.1 h1) h0
  · exact ⟨g, c, rfl, hE, hown⟩

theorem holdsV {w : World} {lo g c n : Nat} {zs : List Int} (h : RowV 3 1 lo w g c n (zs.map (Value.int .i64))) : Holds (Value.int .i64) w g 0 zs.toArray := by
  obtain ⟨g', cap', e, _, _, _, _, _, h2⟩ := Lib.holds_of_ownsRow h (by simp)
  cases e; exact h2
/-- How XCard's word for ints reads. -/
theorem ints_of {w : World} {b o : Nat} {zs : List Int} (hb : b < w.heap.size) (h : SlI w (some ⟨b, o, none⟩) zs) : Ints w b o zs := ⟨hb, fun i hi => by
  obtain ⟨b', o', e, _, h1⟩ := h i hi
  cases e; exact h1⟩
theorem sorted_c (Bs b off cap : Nat) (zs : List Int) (hn : zs.length ≤ 1000) (h0 : zs ≠ []) (w : World) (hBs : Bs < w.heap.size) (hb : b < w.heap.size) (hc : w.cell? ⟨Bs, 0, none⟩ = some (.slice (some ⟨b, off, none⟩) zs.length cap)) (hI : SlI w (some ⟨b, off, none⟩) zs) :
    Calls Try.prog 88 #[.func (.func 100) #[] #[.pointer (some ⟨Bs, 0, none⟩)]] w fun e w' => ∃ g c, e = .returned (.slice (some ⟨g, 0, none⟩) zs.length c) ∧ Ex w w' ∧ w.heap.size ≤ g ∧ g < w'.heap.size ∧ zs.length ≤ c ∧ Holds (Value.int .i64) w' g 0 (zs.mergeSort fun x y => decide (x ≤ y)).toArray := by
  have H := Lib.hid (fun h => collect_c Bs b off cap zs hn h w hBs hb hc hI)
  have H0 := Lib.hid h0
  clear hc hI h0
  go_enter Try.func88, Try.ntmps88
  go_wp2_with (first | (go_at_call 98; refine (H.out H0.out).mono ?_; rintro e w1 ⟨g, c, rfl, hE, hrow⟩; have HR := Lib.hid hrow; have HE := Lib.hid hE; clear hrow hE) |
    (go_at_call 99; refine (Try.slices_Sort_int g 0 c zs _ (holdsV HR.out) HR.out.blk.2 (by omega)).mono ?_; rintro e w2 ⟨rfl, m, os, hw2⟩; have HW := Lib.hid hw2; clear hw2))
  go_ret
  have hlen := (List.mergeSort_perm zs fun x y => decide (x ≤ y)).length_eq
  have hg := HR.out.blk
  refine ⟨g, c, rfl, ?_, hg.1, ?_, HR.out.lens.1, ?_⟩
  · rw [HW.out]
    refine Ex.trans (Ex.of_below (Lib.below_putRow HE.out.below hg.1)) ⟨⟨os, _⟩, rfl⟩
  · rw [HW.out]
    have : (grow (putRow (Value.int .i64) (Sort.ahead w1 m) g 0 (zs.mergeSort fun x y => decide (x ≤ y)).toArray) os).heap.size = w1.heap.size + os.size := by simp [grow, putRow, mapBlock, Sort.ahead]
    omega
  · rw [HW.out]
    exact holds_grow _ _ _ _ _ _ (by simp [putRow, mapBlock, Sort.ahead]; exact hg.2) (holds_putRow _ _ _ _ zs.toArray _ (holds_ahead _ _ _ _ _ _ (holdsV HR.out)) (by simp))

theorem order_len {a b : Nat} : (((a : Int) == (b : Int)) : Bool) = decide (a = b) := by
  rw [Bool.eq_iff_iff]; simp; omega
theorem isOrder_c (zs : List Int) (b o n cap : Nat) (w : World) (hl : zs.length = n) (hn : n ≤ 1000) (h0 : 0 < n) (hcap : n ≤ cap) (hb : b < w.heap.size) (hz : SlI w (some ⟨b, o, none⟩) zs) :
    Calls Try.prog 72 #[.slice (some ⟨b, o, none⟩) n cap] w fun e w' => e = .returned (.bool (permB zs)) ∧ Ex w w' := by
  subst hl
  have hwr : IntKind.i64.wrap ((zs.length : Int) - 1) = (zs.length : Int) - 1 := IntWalk.i64_in _ (by omega)
  have hne : zs ≠ [] := by intro e; simp [e] at h0
  have Hz := Lib.hid hz
  have HA := Lib.hid (fun w hz => allWithin_c zs b o cap 0 ((zs.length : Int) - 1) w (by omega) hz)
  have Hi := Lib.hid (permB_impl zs)
  have H0 := Lib.hid hne
  have hlen := (List.mergeSort_perm zs fun x y => decide (x ≤ y)).length_eq
  clear hz hne
  obtain ⟨r, hr⟩ : ∃ r, permB zs = r := ⟨_, rfl⟩
  rw [hr]
  have Hr := Lib.hid hr
  have Hl := Lib.hid hlen
  clear hr hlen
  obtain ⟨q, hq⟩ : ∃ q, zs.all (fun z => inR z 0 ((zs.length : Int) - 1)) = q := ⟨_, rfl⟩
  have Hq := Lib.hid hq
  clear hq
  cases q
  · have hr : r = false := by rw [← Hr.out, Hi.out, Hq.out]; rfl
    subst hr
    go_enter Try.func72, Try.ntmps72
    go_wp2_with (go_at_call 86; refine (HA.out _ (ints_of hb Hz.out)).mono ?_; rw [Hq.out]; rintro e w1 ⟨rfl, x, rfl⟩)
    go_ret
    exact ⟨rfl, by repeat (first | exact Ex.refl _ | refine Ex.ext ?_ _ | refine Ex.alloc ?_ _ | refine Ex.drew ?_)⟩
  · go_enter Try.func72, Try.ntmps72
    go_wp2_with (first | (go_at_call 86; refine (HA.out _ (ints_of hb Hz.out)).mono ?_; rw [Hq.out]; rintro e w1 ⟨rfl, x, rfl⟩) |
      (go_at_call 89; refine (values_c _ _ _ _).mono ?_; rintro e w1 ⟨rfl, rfl⟩) |
      (go_at_call 88; refine (sorted_c _ b o cap zs hn H0.out _ ?h1 ?h2 ?h3 ?h4).mono ?_; (case h1 => go_simp); (case h2 => (simp [go_sem]; omega)); (case h3 => go_simp); (case h4 => exact Hz.out.ex (by exact by repeat (first | exact Ex.refl _ | refine Ex.ext ?_ _ | refine Ex.alloc ?_ _ | refine Ex.drew ?_))); rintro e w2 ⟨g, c, rfl, hE, hg1, hg2, hc, hH⟩; have HE := Lib.hid hE; have HH := Lib.hid hH; clear hE hH) |
      (go_at_call 87; have HC := Try.slices_Compact_int g 0 c (zs.mergeSort fun x y => decide (x ≤ y)) _ HH.out (by rw [Hl.out]; omega) (by rw [Hl.out]; exact hc); rw [Hl.out] at HC; refine HC.mono ?_; rintro e w3 ⟨rfl, q, hw3⟩; have HW := Lib.hid hw3; clear hw3 HC))
    go_ret
    refine ⟨ret_bool (by rw [order_len, ← Hr.out, Hi.out, Hq.out, Bool.true_and]), ?_⟩
    rw [HW.out]
    refine Ex.of_below (Lib.below_putRow (Ex.trans (by exact by repeat (first | exact Ex.refl _ | refine Ex.ext ?_ _ | refine Ex.alloc ?_ _ | refine Ex.drew ?_)) HE.out).below ?_)
    simp [go_sem] at hg1; omega
end Go.Proofs.Ytkmnnnhnajnefaa
