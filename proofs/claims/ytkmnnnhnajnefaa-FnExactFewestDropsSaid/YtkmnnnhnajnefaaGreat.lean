/- The closure of greatestCap, as a visitor; the walks of greatestCap and GreatestCap. -/
import Derived.Test.YtkmnnnhnajnefaaSearch
import Derived.Test.YtkmnnnhnajnefaaCapsG
namespace Go.Proofs.Ytkmnnnhnajnefaa
set_option linter.unusedSimpArgs false
set_option linter.unusedVariables false
set_option maxHeartbeats 1000000
set_option maxRecDepth 100000
open Go.RowKit

/-- What the closure keeps: the best places as yet, in a row of its own. -/
def BestI (lo B : Nat) (s : List Nat) (w : World) : Prop := ∃ g cap n, s.length = n ∧ w.heap[B]? = some (.cells #[.slice (some ⟨g, 0, none⟩) n cap] 29 (0, 0)) ∧ RowV 3 1 lo w g cap n (intVals (natInts s)) ∧ g ≠ B
theorem keeps_set (w : World) (B : Nat) (v : Value) : Keeps B w (w.setCell ⟨B, 0, none⟩ v) :=
  ⟨rfl, rfl, rfl, by simp, fun k hk hg => heap_setCell_other w _ k v hg⟩

theorem best_visitor (lo B : Nat) : Visitor (List Nat) 67 #[.pointer (some ⟨B, 0, none⟩)] B (BestI lo B) bestF := by
  constructor
  · rintro s w w' ⟨g, cap, n, h0, h1, h2, h3⟩ hE
    exact ⟨g, cap, n, h0, by rw [hE.below.block B (lt_of_block h1)]; exact h1, h2.ex hE, h3⟩
  · rintro P s w q nP capq hP hn hq hqB ⟨g, cap, n, h0, hheld, hrow, hgB⟩
    have hlen := hrow.lens
    have h1 := cell_of_one hheld
    have h2 := free_of_one hheld
    have Hheld := Lib.hid hheld
    have hBlt := lt_of_block hheld
    have hlo : lo ≤ w.heap.size := by have := hrow.blk; omega
    have H0 := Lib.hid h0
    clear h0 hheld
    show Calls Try.prog 67 #[.slice q nP capq, .pointer (some ⟨B, 0, none⟩)] w _
    by_cases he : n < nP
    · have hf : bestF P s = P := bestF_yes (by rw [hP, H0.out]; exact he)
      rw [hf]
      obtain ⟨b, o, rfl, hb, _⟩ := hq 0 (by simp; omega)
      have Hz := Lib.hid hq
      clear hq
      have own0 := own_empty w 3 1
      obtain ⟨i, z, hi, hzz, hsize, hby, hzs⟩ := rowInt.info
      go_enter Try.func67, Try.ntmps67
      go_wp2_with (at_builtin; refine wpList_append_own _ rfl _ _ 29 rfl w.heap.size 3 i z 1 8 rowInt.under hi hzz hsize hby hzs rowInt.pos (.slice (some ⟨w.heap.size, 0, none⟩) 0 0) 0 [] rfl own0 ⟨b, o, none⟩ nP capq (intVals (natInts P)) rfl (by simp [hP]) (Hz.out.ex (by exact by repeat (first | exact Ex.refl _ | refine Ex.ext ?_ _ | refine Ex.alloc ?_ _ | refine Ex.drew ?_))).cells (intVals_one _) (by unfold maxLen; omega) (by omega) (by simp) ?_; intro v' w4 hown hg hnil; simp only [Nat.zero_add, List.nil_append] at hown hnil; obtain ⟨g4, c4, rfl, hr4⟩ := own_pos hown (by omega); have hE : Ex w w4 := Ex.of_below (((Ex.refl w).alloc (.cells #[] 3)).below.grown hg (by simp) (fun k hk => by simp [Value.ownBlock] at hk; omega)); have hB4 := (hE.below.block B hBlt).trans Hheld.out; have c4' := cell_of_one hB4; have f4' := free_of_one hB4)
      go_end0
      have hb4 := hr4.blk
      exact ⟨rfl, (hE.keeps B).trans (keeps_set _ _ _), g4, c4, nP, hP, one_setCell hB4, (hr4.low hlo).keeps (keeps_set _ _ _) (by omega), by omega⟩
    · have hf : bestF P s = s := by unfold bestF; rw [if_neg (by rw [hP, H0.out]; exact he)]
      rw [hf]
      go_enter Try.func67, Try.ntmps67
      go_wp2
      go_end0
      exact ⟨rfl, Keeps.refl _ _, g, cap, n, H0.out, Hheld.out, hrow, hgB⟩

theorem greatestCap_c (cs : List C4) (p : Option Addr) (cap : Nat) (w : World) (hn : cs.length ≤ 15) (hok : ∀ z ∈ cs, Ok z) (hnd : cs.Nodup) (hz : Sl w p cs) :
    Calls Try.prog 44 #[.slice p cs.length cap] w fun e w' => ∃ g cap', e = .returned (.slice (some ⟨g, 0, none⟩) (gcL cs).length cap') ∧ Ex w w' ∧ RowV 3 1 w.heap.size w' g cap' (gcL cs).length (intVals (natInts (gcL cs))) := by
  have Hz := Lib.hid hz
  have Hok := Lib.hid hok
  have Hnd := Lib.hid hnd
  clear hz hok hnd
  have hmf : ∀ (fn : Fn) (first cap : Array Value) (w : World), (Instr.makeFunc fn first cap).run Try.prog w = .ok (.func fn first cap) w := fun _ _ _ _ => rfl
  have hS : runV bestF ([] :: vis cs cs.length [] 0) [] = gcL cs := (srch_eq cs cs.length [] 0 [] (Nat.le_refl _)).symm
  have hI0 : BestI w.heap.size (w.heap.size + 1) [] ((w.alloc (.cells #[] 3)).alloc (.cells #[.slice (some ⟨w.heap.size, 0, none⟩) 0 0] 29)) := ⟨w.heap.size, 0, 0, rfl, by have := heap_alloc_new (w.alloc (.cells #[] 3)) (.cells #[.slice (some ⟨w.heap.size, 0, none⟩) 0 0] 29); simpa using this, (RowV.start w 3 1).ex ((Ex.refl _).alloc _), by omega⟩
  have HI0 := Lib.hid hI0
  clear hI0
  go_enter Try.func44, Try.ntmps44
  go_wp2_with (go_at_call 40; refine (caps_c (best_visitor w.heap.size (w.heap.size + 1)) cs p cap hn Hok.out Hnd.out (fun h0 b o e => by obtain ⟨b', o', e', hb', _⟩ := Hz.out 0 h0; rw [e] at e'; simp at e'; omega) cs.length [] 0 0 0 none 0 [] _ (by simp) rfl rfl (Nat.le_refl _) (Nat.le_refl _) ⟨by simp, by simp⟩ (by simp) (Hz.out.ex (by exact by repeat (first | exact Ex.refl _ | refine Ex.ext ?_ _ | refine Ex.alloc ?_ _ | refine Ex.drew ?_))) (by intro j hj; simp [natInts] at hj) (Or.inl rfl) (fun _ => rfl) HI0.out).mono ?_; rintro e w3 ⟨rfl, hK3, hI3⟩; rw [hS] at hI3; obtain ⟨g, c, n, h0, h1, h2, h3⟩ := hI3; have hc3 := cell_of_one h1)
  go_ret
  subst h0
  exact ⟨g, c, rfl, Keeps.ex (by exact by repeat (first | exact Ex.refl _ | refine Ex.ext ?_ _ | refine Ex.alloc ?_ _ | refine Ex.drew ?_)) hK3 (by omega), h2⟩

def gcI (cs : List C4) : List Int := natInts (gcR cs)
theorem gcI_len (cs : List C4) : (gcI cs).length ≤ 15 := by rw [gcI, natInts_length]; exact gcR_len cs
theorem specGreatestCap_c (cs : List C4) (p : Option Addr) (cap : Nat) (w : World) (hn : cs.length ≤ 1000000000000) (hz : Sl w p cs) :
    Calls Try.prog 15 #[.slice p cs.length cap] w fun e w' => ∃ q cap', e = .returned (.tuple #[.slice q (gcI cs).length cap', .bool (gcB cs)]) ∧ Ex w w' ∧ RowI w.heap.size w'.heap.size w' q cap' (gcI cs) := by
  have Hz := Lib.hid hz
  clear hz
  cases h1 : gcB cs
  · have hR : gcI cs = [] := by simp [gcI, gcR, h1, natInts]
    rw [hR]
    clear hR
    go_enter Try.func15, Try.ntmps15
    go_wp2_with (first | (go_at_call 34; refine (l3Pool_c _ _ _ _ hn (Hz.out.ex (by repeat (first | exact Ex.refl _ | refine Ex.ext ?_ _ | refine Ex.alloc ?_ _ | refine Ex.drew ?_)))).mono ?_; rw [h1]; rintro e w1 ⟨rfl, hx1⟩; have hE1 : Ex w w1 := Ex.trans (by exact by repeat (first | exact Ex.refl _ | refine Ex.ext ?_ _ | refine Ex.alloc ?_ _ | refine Ex.drew ?_)) hx1; have hr0 := RowV.start' w1 3 1 w1.heap.size rfl; have hsz := hE1.below.size))
    go_ret2
    exact ⟨some ⟨w1.heap.size, 0, none⟩, 0, by simp [natInts], hE1.alloc _, RowV.rowI (hr0.low hsz) rfl⟩
  · have hR : gcI cs = natInts (gcL cs) := by simp [gcI, gcR, h1]
    rw [hR]
    clear hR
    have h4 : handB cs = true ∧ cs.length ≤ 15 := by simpa [gcB] using h1
    have Hok := Lib.hid (handB_ok h4.1)
    have hn15 := h4.2
    clear h4
    go_enter Try.func15, Try.ntmps15
    go_wp2_with (first | (go_at_call 34; refine (l3Pool_c _ _ _ _ hn (Hz.out.ex (by repeat (first | exact Ex.refl _ | refine Ex.ext ?_ _ | refine Ex.alloc ?_ _ | refine Ex.drew ?_)))).mono ?_; rw [h1]; rintro e w1 ⟨rfl, hx1⟩; have hE1 : Ex w w1 := Ex.trans (by exact by repeat (first | exact Ex.refl _ | refine Ex.ext ?_ _ | refine Ex.alloc ?_ _ | refine Ex.drew ?_)) hx1; have hr0 := RowV.start' w1 3 1 w1.heap.size rfl; have hsz := hE1.below.size) |
      (go_at_call 43; refine (l3Search_c cs _ _ hn15 Hok.out.1 cs.length [] 0 0 _ _ w1.heap.size 0 _ (by simp) rfl rfl (Nat.le_refl _) (by simp) (Hz.out.ex (hE1.alloc _)) hr0).mono ?_; rintro e w3 ⟨g, c, rfl, hx3, hr3⟩))
    go_ret2
    exact ⟨some ⟨g, 0, none⟩, c, by simp [gcL], (hE1.alloc _).trans hx3, RowV.rowI (hr3.low hsz) (by simp [gcL])⟩

theorem implGreatestCap_c (cs : List C4) (p : Option Addr) (cap : Nat) (w : World) (hn : cs.length ≤ 1000000000000) (hz : Sl w p cs) :
    Calls Try.prog 16 #[.slice p cs.length cap] w fun e w' => ∃ q cap', e = .returned (.tuple #[.slice q (gcI cs).length cap', .bool (gcB cs)]) ∧ Ex w w' ∧ RowI w.heap.size w'.heap.size w' q cap' (gcI cs) := by
  have Hz := Lib.hid hz
  clear hz
  cases h1 : gcB cs
  · have hR : gcI cs = [] := by simp [gcI, gcR, h1, natInts]
    rw [hR]
    clear hR
    go_enter Try.func16, Try.ntmps16
    go_wp2_with (first | (go_at_call 38; refine (isPool_c _ _ _ _ hn (Hz.out.ex (by repeat (first | exact Ex.refl _ | refine Ex.ext ?_ _ | refine Ex.alloc ?_ _ | refine Ex.drew ?_)))).mono ?_; rintro e w' ⟨rfl, x, rfl⟩; rw [h1]))
    go_ret2
    exact ⟨none, 0, by simp [natInts], by repeat (first | exact Ex.refl _ | refine Ex.ext ?_ _ | refine Ex.alloc ?_ _ | refine Ex.drew ?_), RowI.nil _ _ _⟩
  · have hR : gcI cs = natInts (gcL cs) := by simp [gcI, gcR, h1]
    rw [hR]
    clear hR
    have h4 : handB cs = true ∧ cs.length ≤ 15 := by simpa [gcB] using h1
    have Hok := Lib.hid (handB_ok h4.1)
    have Hnd := Lib.hid (((handB_iff cs).1 h4.1).1.nodup)
    have hn15 := h4.2
    clear h4
    go_enter Try.func16, Try.ntmps16
    go_wp2_with (first | (go_at_call 38; refine (isPool_c _ _ _ _ hn (Hz.out.ex (by repeat (first | exact Ex.refl _ | refine Ex.ext ?_ _ | refine Ex.alloc ?_ _ | refine Ex.drew ?_)))).mono ?_; rw [h1]; rintro e w1 ⟨rfl, hx1⟩; have hE1 : Ex w w1 := Ex.trans (by exact by repeat (first | exact Ex.refl _ | refine Ex.ext ?_ _ | refine Ex.alloc ?_ _ | refine Ex.drew ?_)) hx1; have hsz := hE1.below.size) |
      (go_at_call 44; refine (greatestCap_c cs _ _ _ hn15 Hok.out.1 Hnd.out (Hz.out.ex hE1)).mono ?_; rintro e w3 ⟨g, c, rfl, hx3, hr3⟩))
    go_ret2
    exact ⟨some ⟨g, 0, none⟩, c, by simp, hE1.trans hx3, RowV.rowI (hr3.low hsz) (by simp)⟩

def fdR (cs : List C4) : Int := if gcB cs then (cs.length : Int) - (gcL cs).length else 0
theorem specFewestDrops_c (cs : List C4) (p : Option Addr) (cap : Nat) (w : World) (hn : cs.length ≤ 1000000000000) (hz : Sl w p cs) :
    Calls Try.prog 21 #[.slice p cs.length cap] w fun e w' => e = .returned (.tuple #[.int .i64 (fdR cs), .bool (gcB cs)]) ∧ Ex w w' := by
  have Hz := Lib.hid hz
  clear hz
  cases h1 : gcB cs
  · have hR : fdR cs = 0 := by simp [fdR, h1]
    rw [hR]
    clear hR
    go_enter Try.func21, Try.ntmps21
    go_wp2_with (first | (go_at_call 34; refine (l3Pool_c _ _ _ _ hn (Hz.out.ex (by repeat (first | exact Ex.refl _ | refine Ex.ext ?_ _ | refine Ex.alloc ?_ _ | refine Ex.drew ?_)))).mono ?_; rintro e w' ⟨rfl, x, rfl⟩; rw [h1]))
    go_ret2
    exact ⟨rfl, by repeat (first | exact Ex.refl _ | refine Ex.ext ?_ _ | refine Ex.alloc ?_ _ | refine Ex.drew ?_)⟩
  · have hR : fdR cs = (cs.length : Int) - (gcL cs).length := by simp [fdR, h1]
    rw [hR]
    clear hR
    have h4 : handB cs = true ∧ cs.length ≤ 15 := by simpa [gcB] using h1
    have Hok := Lib.hid (handB_ok h4.1)
    have hn15 := h4.2
    clear h4
    have hgl := gcL_len cs
    have hgd : srch cs cs.length [] 0 [] = gcL cs := rfl
    go_enter Try.func21, Try.ntmps21
    go_wp2_with (first | (go_at_call 34; refine (l3Pool_c _ _ _ _ hn (Hz.out.ex (by repeat (first | exact Ex.refl _ | refine Ex.ext ?_ _ | refine Ex.alloc ?_ _ | refine Ex.drew ?_)))).mono ?_; rw [h1]; rintro e w1 ⟨rfl, hx1⟩; have hE1 : Ex w w1 := Ex.trans (by exact by repeat (first | exact Ex.refl _ | refine Ex.ext ?_ _ | refine Ex.alloc ?_ _ | refine Ex.drew ?_)) hx1; have hr0 := RowV.start' w1 3 1 w1.heap.size rfl; have hsz := hE1.below.size) |
      (go_at_call 43; refine (l3Search_c cs _ _ hn15 Hok.out.1 cs.length [] 0 0 _ _ w1.heap.size 0 _ (by simp) rfl rfl (Nat.le_refl _) (by simp) (Hz.out.ex (hE1.alloc _)) hr0).mono ?_; rw [hgd]; rintro e w3 ⟨g, c, rfl, hx3, hr3⟩))
    go_ret2
    exact ⟨rfl, (hE1.alloc _).trans hx3⟩
theorem implFewestDrops_c (cs : List C4) (p : Option Addr) (cap : Nat) (w : World) (hn : cs.length ≤ 1000000000000) (hz : Sl w p cs) :
    Calls Try.prog 22 #[.slice p cs.length cap] w fun e w' => e = .returned (.tuple #[.int .i64 (fdR cs), .bool (gcB cs)]) ∧ Ex w w' := by
  have Hz := Lib.hid hz
  clear hz
  cases h1 : gcB cs
  · have hR : fdR cs = 0 := by simp [fdR, h1]
    rw [hR]
    clear hR
    go_enter Try.func22, Try.ntmps22
    go_wp2_with (first | (go_at_call 38; refine (isPool_c _ _ _ _ hn (Hz.out.ex (by repeat (first | exact Ex.refl _ | refine Ex.ext ?_ _ | refine Ex.alloc ?_ _ | refine Ex.drew ?_)))).mono ?_; rintro e w' ⟨rfl, x, rfl⟩; rw [h1]))
    go_ret2
    exact ⟨rfl, by repeat (first | exact Ex.refl _ | refine Ex.ext ?_ _ | refine Ex.alloc ?_ _ | refine Ex.drew ?_)⟩
  · have hR : fdR cs = (cs.length : Int) - (gcL cs).length := by simp [fdR, h1]
    rw [hR]
    clear hR
    have h4 : handB cs = true ∧ cs.length ≤ 15 := by simpa [gcB] using h1
    have Hok := Lib.hid (handB_ok h4.1)
    have Hnd := Lib.hid (((handB_iff cs).1 h4.1).1.nodup)
    have hn15 := h4.2
    clear h4
    have hgl := gcL_len cs
    go_enter Try.func22, Try.ntmps22
    go_wp2_with (first | (go_at_call 38; refine (isPool_c _ _ _ _ hn (Hz.out.ex (by repeat (first | exact Ex.refl _ | refine Ex.ext ?_ _ | refine Ex.alloc ?_ _ | refine Ex.drew ?_)))).mono ?_; rw [h1]; rintro e w1 ⟨rfl, hx1⟩; have hE1 : Ex w w1 := Ex.trans (by exact by repeat (first | exact Ex.refl _ | refine Ex.ext ?_ _ | refine Ex.alloc ?_ _ | refine Ex.drew ?_)) hx1; have hsz := hE1.below.size) |
      (go_at_call 44; refine (greatestCap_c cs _ _ _ hn15 Hok.out.1 Hnd.out (Hz.out.ex hE1)).mono ?_; rintro e w3 ⟨g, c, rfl, hx3, hr3⟩))
    go_ret2
    exact ⟨rfl, hE1.trans hx3⟩
end Go.Proofs.Ytkmnnnhnajnefaa
