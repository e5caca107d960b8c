/- The law on SortCards. -/
import Derived.Test.YtnjfkgggebhelaaPut
import Derived.Test.YtnjfkgggebhelaaLawG
namespace Go.Proofs.Ytnjfkgggebhelaa
set_option linter.unusedSimpArgs false
set_option linter.unusedVariables false
set_option maxHeartbeats 1000000
set_option maxRecDepth 100000
open Go.RowKit

theorem sortU_snoc (cs : List C4) (c : C4) : sortU (cs ++ [c]) = putC (sortU cs) c := by simp [sortU]
theorem foldl_putC_len (cs : List C4) : ∀ l : List C4, (cs.foldl putC l).length ≤ l.length + cs.length := by
  induction cs with
  | nil => intro l; simp
  | cons c cs ih => intro l; have h1 := ih (putC l c); have h2 := putC_len l c; simp only [List.foldl_cons, List.length_cons]; omega
theorem sortU_len (cs : List C4) : (sortU cs).length ≤ cs.length := by have := foldl_putC_len cs []; simpa [sortU] using this
theorem takeC_snoc {cs : List C4} {k : Nat} (h : k < cs.length) : cs.take (k + 1) = cs.take k ++ [cs[k]] := by rw [List.take_succ_eq_append_getElem h]
theorem foldl_putC_ok (cs : List C4) : ∀ l : List C4, (∀ z ∈ cs, Ok z) → (∀ z ∈ l, Ok z) → ∀ z ∈ cs.foldl putC l, Ok z := by
  induction cs with
  | nil => intro l _ h; exact h
  | cons c cs ih =>
    intro l hc hl
    refine ih (putC l c) (fun z hz => hc z (List.mem_cons_of_mem _ hz)) fun z hz => ?_
    rcases (mem_putC z c l).1 hz with h | rfl
    · exact hl z h
    · exact hc _ List.mem_cons_self
theorem sortU_ok {cs : List C4} (h : ∀ z ∈ cs, Ok z) : ∀ z ∈ sortU cs, Ok z := foldl_putC_ok cs [] h (by simp)
theorem l2Put_n {cs : List C4} {c : C4} {b o n cap : Nat} {w : World} (hl : cs.length = n) (hn : n ≤ 100000000) (hcap : n ≤ cap) (ho : ∀ z ∈ cs, Ok z) (hc : Ok c) (hz : Sl w (some ⟨b, o, none⟩) cs) :
    Calls Try.prog 47 #[.slice (some ⟨b, o, none⟩) n cap, .agg #[.int .i64 c.a, .int .i64 c.b, .int .i64 c.c, .int .i64 c.d]] w fun e w' => ∃ g cap', e = .returned (.slice (some ⟨g, 0, none⟩) (putC cs c).length cap') ∧ Ex w w' ∧ RowV 29 4 w.heap.size w' g cap' (putC cs c).length (cellsOf (putC cs c)) := by
  subst hl; exact l2Put_c cs c b o cap w hn hcap ho hc hz

theorem l2Sorted_c (cs : List C4) (p : Option Addr) (cap : Nat) (w : World) (hn : cs.length ≤ 100000000) (ho : ∀ z ∈ cs, Ok z) (hz : Sl w p cs) :
    Calls Try.prog 41 #[.slice p cs.length cap] w fun e w' => ∃ g cap', e = .returned (.slice (some ⟨g, 0, none⟩) (sortU cs).length cap') ∧ Ex w w' ∧ RowV 29 4 w.heap.size w' g cap' (sortU cs).length (cellsOf (sortU cs)) := by
  have Hz := Lib.hid hz
  have Ho := Lib.hid ho
  clear hz ho
  go_enter Try.func41, Try.ntmps41
  go_wp2
  go_loopw [3, 4] (fun u v wr => ∃ (k m g cap' : Nat), k ≤ cs.length ∧ v = .int .i64 k ∧ u = .slice (some ⟨g, 0, none⟩) m cap' ∧ (sortU (cs.take k)).length = m ∧ m ≤ k ∧ Ex w wr ∧ RowV 29 4 w.heap.size wr g cap' m (cellsOf (sortU (cs.take k)))) (fun _ v _ => cs.length - (intOf v).toNat)
  case atStart => exact ⟨0, 0, w.heap.size, 0, Nat.zero_le _, rfl, rfl, rfl, Nat.le_refl _, by repeat (first | exact Ex.refl _ | refine Ex.ext ?_ _ | refine Ex.alloc ?_ _ | refine Ex.drew ?_), RowV.start' _ _ _ _ rfl⟩
  case round =>
    obtain ⟨k, m, g, cap', hk, rfl, rfl, hm, hmk, hE, hrow⟩ := hrel
    have HE := Lib.hid hE
    have HR := Lib.hid hrow
    have HM := Lib.hid hm
    by_cases hlt : k < cs.length
    · obtain ⟨b, o, rfl, hb, h1, h2, h3, h4⟩ := (Hz.out.ex hE) k hlt
      have hzo := Lib.hid (Ho.out cs[k] (List.getElem_mem _))
      have Hs := Lib.hid (show sortU (cs.take (k + 1)) = putC (sortU (cs.take k)) cs[k] by rw [takeC_snoc hlt, sortU_snoc])
      have hcm := hrow.lens.1
      have Hok := Lib.hid (sortU_ok (cs := cs.take k) fun z hz => Ho.out z (List.mem_of_mem_take hz))
      have Hsl := Lib.hid ((hrow.row hm.symm).sl)
      clear hE hrow hm
      generalize cs[k] = z at *
      go_wp2_with (go_at_call 47; refine (l2Put_n HM.out (by omega) hcm Hok.out hzo.out Hsl.out).mono ?_; rintro e wX ⟨g2, cap2, rfl, hx, hr2⟩)
      go_roundw
      case rel =>
        have hl2 := putC_len (sortU (cs.take k)) z
        have hbk := HE.out.below.size
        (try ((repeat apply Exists.intro); refine ⟨?_, rfl⟩))
        refine ⟨k + 1, _, g2, cap2, by omega, by go_num, rfl, by rw [Hs.out], by have := HM.out; omega, HE.out.trans hx, ?_⟩
        rw [Hs.out]
        exact hr2.low hbk
      case measure => simp [intOf]; omega
    · have hkn : k = cs.length := by omega
      subst hkn
      clear hE hrow hm
      go_wp2
      go_ret
      have e1 := HM.out
      have e2 := HR.out
      rw [List.take_length] at e1 e2
      subst e1
      exact ⟨g, cap', rfl, HE.out, e2⟩

def soB (cs : List C4) : Bool := cs.all ok && decide ((sortU cs).length ≤ 27)
def soR (cs : List C4) : List C4 := if soB cs then sortU cs else []
theorem soR_len (cs : List C4) : (soR cs).length ≤ 27 := by
  unfold soR; split
  · rename_i h; simp only [soB, Bool.and_eq_true, decide_eq_true_iff] at h; exact h.2
  · simp
theorem all_ok {cs : List C4} (h : cs.all ok = true) : ∀ z ∈ cs, Ok z := fun z hz => (ok_iff z).1 (List.all_eq_true.1 h z hz)
theorem specSortCards_c (cs : List C4) (p : Option Addr) (cap : Nat) (w : World) (hn : cs.length ≤ 100000000) (hz : Sl w p cs) :
    Calls Try.prog 13 #[.slice p cs.length cap] w fun e w' => ∃ q cap', e = .returned (.tuple #[.slice q (soR cs).length cap', .bool (soB cs)]) ∧ Ex w w' ∧ Row w.heap.size w'.heap.size w' q cap' (soR cs) := by
  have Hz := Lib.hid hz
  clear hz
  go_enter Try.func13, Try.ntmps13
  go_wp2
  go_loopw [4] (fun v wr => ∃ k : Nat, k ≤ cs.length ∧ v = .int .i64 k ∧ Ex w wr ∧ ∀ j (h : j < cs.length), j < k → ok cs[j] = true) (fun v _ => cs.length - (intOf v).toNat)
  case atStart => exact ⟨0, Nat.zero_le _, rfl, by repeat (first | exact Ex.refl _ | refine Ex.ext ?_ _ | refine Ex.alloc ?_ _ | refine Ex.drew ?_), fun j _ h => by omega⟩
  case round =>
    obtain ⟨k, hk, rfl, hE, hf⟩ := hrel
    have HE := Lib.hid hE
    have Hf := Lib.hid hf
    clear hf
    by_cases hlt : k < cs.length
    · obtain ⟨b, o, rfl, hb, h1, h2, h3, h4⟩ := (Hz.out.ex hE) k hlt
      have Hg := Lib.hid (List.getElem?_eq_getElem hlt)
      have Hm := Lib.hid (List.getElem_mem hlt)
      clear hE
      generalize cs[k] = z at *
      cases hok : ok z
      · have hB : soB cs = false := by
          have : cs.all ok = false := by
            rw [← Bool.not_eq_true, List.all_eq_true]
            intro h
            have := h z Hm.out
            rw [hok] at this; cases this
          simp [soB, this]
        have hR : soR cs = [] := by simp [soR, hB]
        have HB := Lib.hid hB
        have HR := Lib.hid hR
        clear hB hR
        go_wp2_with (go_at_call 40; refine (l2Card_c _ _).mono ?_; rintro e w' ⟨rfl, x, rfl⟩; rw [hok])
        go_ret2
        rw [HB.out, HR.out]
        exact ⟨_, 0, by simp [ext_size], HE.out.trans (by repeat (first | exact Ex.refl _ | refine Ex.ext ?_ _ | refine Ex.alloc ?_ _ | refine Ex.drew ?_)), (Row.empty _).mono (by have := HE.out.below.size; simp [ext_size]; omega) (by first | (simp; done) | (simp [ext_size]; done) | (simp [ext_size]; omega) | omega)⟩
      · go_wp2_with (go_at_call 40; refine (l2Card_c _ _).mono ?_; rintro e w' ⟨rfl, x, rfl⟩; rw [hok])
        go_roundw
        case rel =>
          refine ⟨k + 1, by omega, by go_num, HE.out.trans (by repeat (first | exact Ex.refl _ | refine Ex.ext ?_ _ | refine Ex.alloc ?_ _ | refine Ex.drew ?_)), fun j hj hjk => ?_⟩
          by_cases e : j = k
          · subst e
            have := Hg.out
            rw [List.getElem?_eq_getElem hj] at this
            rw [Option.some.inj this]
            exact hok
          · exact Hf.out j hj (by omega)
        case measure => simp [intOf]; omega
    · have hall : cs.all ok = true := by
        rw [List.all_eq_true]
        intro z hz
        obtain ⟨j, hj, rfl⟩ := List.getElem_of_mem hz
        exact Hf.out j hj (by omega)
      have Hok := Lib.hid (all_ok hall)
      clear hE
      by_cases h27 : (sortU cs).length ≤ 27
      · have hB : soB cs = true := by simp [soB, hall, h27]
        have hR : soR cs = sortU cs := by simp [soR, hB]
        have HB := Lib.hid hB
        have HR := Lib.hid hR
        clear hB hR hall
        have hi27 : ¬ ((27 : Int) < ((sortU cs).length : Int)) := by omega
        go_wp2_with (go_at_call 41; refine (l2Sorted_c cs p cap _ hn Hok.out (Hz.out.ex HE.out)).mono ?_; rintro e wX ⟨g, cap', rfl, hx, hr⟩)
        go_ret2
        rw [HB.out, HR.out]
        exact ⟨some ⟨g, 0, none⟩, cap', rfl, HE.out.trans hx, (hr.low HE.out.below.size).row rfl⟩
      · have hB : soB cs = false := by simp [soB, h27]
        have hR : soR cs = [] := by simp [soR, hB]
        have HB := Lib.hid hB
        have HR := Lib.hid hR
        clear hB hR hall
        have hi27 : (27 : Int) < ((sortU cs).length : Int) := by omega
        go_wp2_with (go_at_call 41; refine (l2Sorted_c cs p cap _ hn Hok.out (Hz.out.ex HE.out)).mono ?_; rintro e wX ⟨g, cap', rfl, hx, hr⟩)
        go_ret2
        rw [HB.out, HR.out]
        exact ⟨_, 0, by simp [ext_size], (HE.out.trans hx).trans (by repeat (first | exact Ex.refl _ | refine Ex.ext ?_ _ | refine Ex.alloc ?_ _ | refine Ex.drew ?_)), (Row.empty _).mono (by have := (HE.out.trans hx).below.size; simp [ext_size]; omega) (by first | (simp; done) | (simp [ext_size]; done) | (simp [ext_size]; omega) | omega)⟩

theorem implSortCards_c (cs : List C4) (b : Nat) (cap : Nat) (w : World) (hn : cs.length ≤ 100000000) (hz : Sl w (some ⟨b, 0, none⟩) cs) :
    Calls Try.prog 15 #[.slice (some ⟨b, 0, none⟩) cs.length cap] w fun e w' => ∃ q cap', e = .returned (.tuple #[.slice q (soR cs).length cap', .bool (soB cs)]) ∧ Ex w w' ∧ Row w.heap.size w'.heap.size w' q cap' (soR cs) := by
  have Hz := Lib.hid hz
  clear hz
  cases hall : cs.all ok
  · have hB : soB cs = false := by simp [soB, hall]
    have hR : soR cs = [] := by simp [soR, hB]
    rw [hB, hR]
    clear hB hR
    go_enter Try.func15, Try.ntmps15
    go_wp2_with (go_at_call 42; refine (areCards_c cs _ cap _ (by omega) (Hz.out.ex (by repeat (first | exact Ex.refl _ | refine Ex.ext ?_ _ | refine Ex.alloc ?_ _ | refine Ex.drew ?_)))).mono ?_; rintro e w' ⟨rfl, x, rfl⟩; rw [hall])
    go_ret2
    exact ⟨none, 0, rfl, by repeat (first | exact Ex.refl _ | refine Ex.ext ?_ _ | refine Ex.alloc ?_ _ | refine Ex.drew ?_), Row.nil _ _ _⟩
  · have Hok := Lib.hid (all_ok hall)
    by_cases h27 : (sortU cs).length ≤ 27
    · have hB : soB cs = true := by simp [soB, hall, h27]
      have hR : soR cs = sortU cs := by simp [soR, hB]
      rw [hB, hR]
      clear hB hR
      have hi27 : ¬ ((27 : Int) < ((sortU cs).length : Int)) := by omega
      go_enter Try.func15, Try.ntmps15
      go_wp2_with (first | (go_at_call 42; refine (areCards_c cs _ cap _ (by omega) (Hz.out.ex (by repeat (first | exact Ex.refl _ | refine Ex.ext ?_ _ | refine Ex.alloc ?_ _ | refine Ex.drew ?_)))).mono ?_; rintro e w' ⟨rfl, x, rfl⟩; rw [hall]) | (go_at_call 43; refine (sorted_c cs b 0 cap _ hn Hok.out (Hz.out.ex (by exact by repeat (first | exact Ex.refl _ | refine Ex.ext ?_ _ | refine Ex.alloc ?_ _ | refine Ex.drew ?_)))).mono ?_; rintro e wX ⟨g, cap', rfl, hx, hr⟩))
      go_ret2
      exact ⟨some ⟨g, 0, none⟩, cap', rfl, Ex.trans (by repeat (first | exact Ex.refl _ | refine Ex.ext ?_ _ | refine Ex.alloc ?_ _ | refine Ex.drew ?_)) hx, (hr.low (Ex.below (show Ex w _ by exact by repeat (first | exact Ex.refl _ | refine Ex.ext ?_ _ | refine Ex.alloc ?_ _ | refine Ex.drew ?_))).size).row rfl⟩
    · have hB : soB cs = false := by simp [soB, h27]
      have hR : soR cs = [] := by simp [soR, hB]
      rw [hB, hR]
      clear hB hR
      have hi27 : (27 : Int) < ((sortU cs).length : Int) := by omega
      go_enter Try.func15, Try.ntmps15
      go_wp2_with (first | (go_at_call 42; refine (areCards_c cs _ cap _ (by omega) (Hz.out.ex (by repeat (first | exact Ex.refl _ | refine Ex.ext ?_ _ | refine Ex.alloc ?_ _ | refine Ex.drew ?_)))).mono ?_; rintro e w' ⟨rfl, x, rfl⟩; rw [hall]) | (go_at_call 43; refine (sorted_c cs b 0 cap _ hn Hok.out (Hz.out.ex (by exact by repeat (first | exact Ex.refl _ | refine Ex.ext ?_ _ | refine Ex.alloc ?_ _ | refine Ex.drew ?_)))).mono ?_; rintro e wX ⟨g, cap', rfl, hx, hr⟩))
      go_ret2
      exact ⟨none, 0, rfl, (Ex.trans (by repeat (first | exact Ex.refl _ | refine Ex.ext ?_ _ | refine Ex.alloc ?_ _ | refine Ex.drew ?_)) hx).trans (by repeat (first | exact Ex.refl _ | refine Ex.ext ?_ _ | refine Ex.alloc ?_ _ | refine Ex.drew ?_)), Row.nil _ _ _⟩

theorem fnExactSortCards_walk (w : World) (p : Option Addr) (cs : List C4) (cap : Nat) (hl : cs.length ≤ maxLen) (hz : Sl w p cs) : Calls Try.prog 3 #[.slice p cs.length cap] w fun e w' => e = .returned (.bool true) ∧ Below w.heap.size w w' := by
  unfold maxLen at hl
  have hB := Below.refl w.heap.size w
  by_cases hs : cs.length ≤ 1048576
  · go_enter Try.func3, Try.ntmps3
    go_wp2_with (go_at_call 12; refine (sz_c _ _ _ _ (by omega) (by omega) (by omega) _).mono ?_; rintro e w1 ⟨rfl, hx⟩; rw [szSmall hs]; have hB := below_ex hB hx; have hs1 := Lib.hid hx.below.size; clear hx)
    have h3 : ¬ ((1048576 : Int) - cs.length < 0) := by omega
    have hlen := soR_len cs
    go_wp2_with (go_at_call 14; refine (toA4S_o _ _ _ _ (by omega) (hz.below hB)).mono ?_; rintro e w2 ⟨gra, rfl, hx, ra⟩; have hB := below_ex hB hx; have hs2 := Lib.hid hx.below.size; clear hx)
    go_wp2_with (go_at_call 13; refine (specSortCards_c _ _ _ _ (by omega) ra.sl).mono ?_; rintro e w3 ⟨qw, cw, rfl, hx, rw0⟩; have hB := below_ex hB hx; have hs3 := Lib.hid hx.below.size; clear hx)
    go_wp2_with (go_at_call 14; refine (toA4S_o _ _ _ _ (by omega) (hz.below hB)).mono ?_; rintro e w4 ⟨grx, rfl, hx, rx⟩; have rw0 := rw0.ex hx; have hB := below_ex hB hx; have hs4 := Lib.hid hx.below.size; clear hx)
    go_wp2_with (go_at_call 15; refine (implSortCards_c _ _ _ _ (by omega) rx.sl).mono ?_; rintro e w5 ⟨qg, cg, rfl, hx, rg⟩; have rw0 := rw0.ex hx; have rx := rx.ex hx; have hB := below_ex hB hx; have hs5 := Lib.hid hx.below.size; clear hx)
    go_wp2_with (go_at_call 16; refine (eqA4S_c _ _ _ _ _ _ _ (by omega) (by omega) rg.sl rw0.sl).mono ?_; rintro e w6 ⟨rfl, hx⟩; have rw0 := rw0.ex hx; have rx := rx.ex hx; have rg := rg.ex hx; have hB := below_ex hB hx; have hs6 := Lib.hid hx.below.size; clear hx)
    go_wp2_with (go_at_call 14; refine (toA4S_o _ _ _ _ (by omega) (hz.below hB)).mono ?_; rintro e w7 ⟨gry, rfl, hx, ry⟩; have rw0 := rw0.ex hx; have rx := rx.ex hx; have rg := rg.ex hx; have hB := below_ex hB hx; have hs7 := Lib.hid hx.below.size; clear hx)
    go_wp2_with (go_at_call 16; refine (eqA4S_c _ _ _ _ _ _ _ (by omega) (by omega) rx.sl ry.sl).mono ?_; rintro e w8 ⟨rfl, hx⟩; have rw0 := rw0.ex hx; have rx := rx.ex hx; have rg := rg.ex hx; have ry := ry.ex hx; have hB := below_ex hB hx; have hs8 := Lib.hid hx.below.size; clear hx)
    go_wp2_with (go_at_call 17; refine (markA4S_c _ _ _ _ _ _ _ (by omega) (by omega) (by omega) rx).mono ?_; rintro e w9 ⟨rfl, rx, ha⟩; have rw0 := ha.row rw0 (Or.inl (by have := hs1.out; have := hs2.out; have := hs3.out; have := hs4.out; have := hs5.out; have := hs6.out; have := hs7.out; have := hs8.out; omega)); have rg := ha.row rg (Or.inr (by have := hs1.out; have := hs2.out; have := hs3.out; have := hs4.out; have := hs5.out; have := hs6.out; have := hs7.out; have := hs8.out; omega)); have hB := below_apart hB ha (by have := hs1.out; have := hs2.out; have := hs3.out; have := hs4.out; have := hs5.out; have := hs6.out; have := hs7.out; have := hs8.out; omega); have hs9 := Lib.hid ha.size; clear ha)
    go_wp2_with (go_at_call 16; refine (eqA4S_c _ _ _ _ _ _ _ (by omega) (by omega) rg.sl rw0.sl).mono ?_; rintro e w10 ⟨rfl, hx⟩; have rw0 := rw0.ex hx; have rg := rg.ex hx; have hB := below_ex hB hx; have hs10 := Lib.hid hx.below.size; clear hx)
    go_wp2_with (go_at_call 17; refine (markA4S_c _ _ _ _ _ _ _ (by omega) (by omega) (by omega) rg).mono ?_; rintro e w11 ⟨rfl, rg, ha⟩; have rw0 := ha.row rw0 (Or.inl (by have := hs1.out; have := hs2.out; have := hs3.out; have := hs4.out; have := hs5.out; have := hs6.out; have := hs7.out; have := hs8.out; have := hs9.out; have := hs10.out; omega)); have hB := below_apart hB ha (by have := hs1.out; have := hs2.out; have := hs3.out; have := hs4.out; have := hs5.out; have := hs6.out; have := hs7.out; have := hs8.out; have := hs9.out; have := hs10.out; omega); have hs11 := Lib.hid ha.size; clear ha)
    go_wp2_with (go_at_call 18; refine (heldA4S_c _ _ _ _ _ (by omega) (by omega) (by omega) rg.sl).mono ?_; rintro e w12 ⟨rfl, hx⟩; have rw0 := rw0.ex hx; have rg := rg.ex hx; have hB := below_ex hB hx; have hs12 := Lib.hid hx.below.size; clear hx)
    go_wp2_with (go_at_call 14; refine (toA4S_o _ _ _ _ (by omega) (hz.below hB)).mono ?_; rintro e w13 ⟨grz, rfl, hx, rz⟩; have rw0 := rw0.ex hx; have rg := rg.ex hx; have hB := below_ex hB hx; have hs13 := Lib.hid hx.below.size; clear hx)
    go_wp2_with (go_at_call 15; refine (implSortCards_c _ _ _ _ (by omega) rz.sl).mono ?_; rintro e w14 ⟨qh, ch, rfl, hx, rh⟩; have rw0 := rw0.ex hx; have rg := rg.ex hx; have hB := below_ex hB hx; have hs14 := Lib.hid hx.below.size; clear hx)
    go_wp2_with (go_at_call 16; refine (eqA4S_c _ _ _ _ _ _ _ (by omega) (by omega) rh.sl rw0.sl).mono ?_; rintro e w15 ⟨rfl, hx⟩; have rw0 := rw0.ex hx; have rg := rg.ex hx; have rh := rh.ex hx; have hB := below_ex hB hx; have hs15 := Lib.hid hx.below.size; clear hx)
    go_wp2_with (go_at_call 18; refine (heldA4S_c _ _ _ _ _ (by omega) (by omega) (by omega) rg.sl).mono ?_; rintro e w16 ⟨rfl, hx⟩; have rg := rg.ex hx; have hB := below_ex hB hx; have hs16 := Lib.hid hx.below.size; clear hx)
    go_ret
    exact ⟨rfl, hB⟩
  · go_enter Try.func3, Try.ntmps3
    go_wp2_with (go_at_call 12; refine (sz_c _ _ _ _ (by omega) (by omega) (by omega) _).mono ?_; rintro e w1 ⟨rfl, hx⟩; rw [szBig hs]; have hB := below_ex hB hx; clear hx)
    go_ret
    exact ⟨rfl, hB⟩
end Go.Proofs.Ytnjfkgggebhelaa
