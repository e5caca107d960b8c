/- spec.l2Put and spec.l2Sorted. -/
import Derived.Test.YtnjfkgggebhelaaSorted
import Derived.Test.YtnjfkgggebhelaaGreedy
namespace Go.Proofs.Ytnjfkgggebhelaa
set_option linter.unusedSimpArgs false
set_option linter.unusedVariables false
set_option maxHeartbeats 1000000
set_option maxRecDepth 100000
open Go.RowKit

theorem putC_skip {c : C4} : ∀ (cs : List C4) (k : Nat), k ≤ cs.length → (∀ j (h : j < cs.length), j < k → num cs[j] < num c) → putC cs c = cs.take k ++ putC (cs.drop k) c
  | _, 0, _, _ => by simp
  | [], k + 1, h, _ => by simp at h
  | z :: cs, k + 1, h, hf => by
    have h0 := hf 0 (by simp) (by omega)
    simp only [List.getElem_cons_zero] at h0
    rw [putC, if_pos h0, putC_skip cs k (by simpa using h) (fun j hj hk => by have := hf (j + 1) (by simpa using hj) (by omega); simpa using this)]
    simp
theorem putC_len (cs : List C4) (c : C4) : (putC cs c).length ≤ cs.length + 1 := by
  induction cs with
  | nil => simp [putC]
  | cons z cs ih =>
    unfold putC
    split
    · simp; omega
    · split <;> simp
theorem sl_one {W : World} {b : Nat} {c : C4} (hb : b < W.heap.size) (h0 : W.cell? ⟨b, 0, none⟩ = some (.int .i64 c.a)) (h1 : W.cell? ⟨b, 1, none⟩ = some (.int .i64 c.b)) (h2 : W.cell? ⟨b, 2, none⟩ = some (.int .i64 c.c)) (h3 : W.cell? ⟨b, 3, none⟩ = some (.int .i64 c.d)) : Sl W (some ⟨b, 0, none⟩) [c] := by
  intro i hi
  simp at hi
  subst hi
  exact ⟨b, 0, rfl, hb, h0, h1, h2, h3⟩
theorem own_some {W : World} {lo E size n cap : Nat} {p : Option Addr} {xs : List Value} (h : W.ownsRow lo E size (.slice p n cap) n xs) (hp : p ≠ none) : ∃ g, p = some ⟨g, 0, none⟩ ∧ RowV E size lo W g cap n xs := by
  rcases h.2 with ⟨h1, _⟩ | ⟨g, cap', cur, h1, h2⟩
  · simp at h1; exact absurd h1.1 hp
  · simp at h1
    obtain ⟨rfl, rfl⟩ := h1
    exact ⟨g, rfl, h⟩
theorem l2Less_r {a c : C4} {r : Bool} (h : decide (num a < num c) = r) (ha : Ok a) (hc : Ok c) (w : World) : Calls Try.prog 85 #[.agg #[.int .i64 a.a, .int .i64 a.b, .int .i64 a.c, .int .i64 a.d], .agg #[.int .i64 c.a, .int .i64 c.b, .int .i64 c.c, .int .i64 c.d]] w fun e w' => e = .returned (.bool r) ∧ Ex w w' := by
  rw [← h]; exact l2Less_c a c ha hc w

theorem own_exx {w w' : World} {lo E size n : Nat} {v : Value} {xs : List Value} (h : w.ownsRow lo E size v n xs) (k : Ex w w') : w'.ownsRow lo E size v n xs := by
  obtain ⟨x, rfl⟩ := k; exact own_ext h x
theorem l2Own_n2 {cs : List C4} {b o n cap : Nat} {w : World} (hl : cs.length = n) (hn : n ≤ 1000000000) (hz : Sl w (some ⟨b, o, none⟩) cs) :
    Calls Try.prog 53 #[.slice (some ⟨b, o, none⟩) n cap] w fun e w' => ∃ g cap', e = .returned (.slice (some ⟨g, 0, none⟩) n cap') ∧ Ex w w' ∧ Row w.heap.size w'.heap.size w' (some ⟨g, 0, none⟩) cap' cs := by
  subst hl; exact l2Own_s hn (Or.inr ⟨b, o, cap, rfl, hz⟩)

theorem l2Put_c (cs : List C4) (c : C4) (b o cap : Nat) (w : World) (hn : cs.length ≤ 100000000) (hcap : cs.length ≤ cap) (ho : ∀ z ∈ cs, Ok z) (hc : Ok c) (hz : Sl w (some ⟨b, o, none⟩) cs) :
    Calls Try.prog 47 #[.slice (some ⟨b, o, none⟩) cs.length cap, .agg #[.int .i64 c.a, .int .i64 c.b, .int .i64 c.c, .int .i64 c.d]] w fun e w' => ∃ g cap', e = .returned (.slice (some ⟨g, 0, none⟩) (putC cs c).length cap') ∧ Ex w w' ∧ RowV 29 4 w.heap.size w' g cap' (putC cs c).length (cellsOf (putC cs c)) := by
  have Hz := Lib.hid hz
  have Ho := Lib.hid ho
  have Hc := Lib.hid hc
  clear hz ho hc
  go_enter Try.func47, Try.ntmps47
  go_wp2
  go_loopw [5] (fun v wr => ∃ k : Nat, k ≤ cs.length ∧ v = .int .i64 k ∧ Ex (w.alloc (.cells #[.int .i64 c.a, .int .i64 c.b, .int .i64 c.c, .int .i64 c.d] 29)) wr ∧ ∀ j (h : j < cs.length), j < k → num cs[j] < num c) (fun v _ => cs.length - (intOf v).toNat)
  case atStart => exact ⟨0, Nat.zero_le _, rfl, Ex.refl _, fun j _ h => by omega⟩
  case round =>
    obtain ⟨k, hk, rfl, ⟨x, rfl⟩, hf⟩ := hrel
    have Hf := Lib.hid hf
    clear hf
    by_cases hlt : k < cs.length
    · obtain ⟨b', o', e', hb, h1, h2, h3, h4⟩ := Hz.out k hlt
      simp at e'
      obtain ⟨rfl, rfl⟩ := e'
      have hzo := Ho.out cs[k] (List.getElem_mem _)
      have Hd := Lib.hid (List.drop_eq_getElem_cons hlt)
      have Hg := Lib.hid (List.getElem?_eq_getElem hlt)
      have Hsk := Lib.hid (putC_skip cs k hk Hf.out)
      have hkz : (k : Int) < (cs.length : Int) := by omega
      generalize cs[k] = z at *
      cases hr : decide (num z < num c)
      · have Hnr := Lib.hid (show ¬ num z < num c from of_decide_eq_false hr)
        cases hq : ceq z c
        · have Hnq := Lib.hid (show ¬ z = c from fun e => by rw [(ceq_iff z c).2 e] at hq; cases hq)
          have HP := Lib.hid (show putC cs c = cs.take k ++ [c] ++ cs.drop k by rw [Hsk.out, Hd.out, putC, if_neg Hnr.out, if_neg Hnq.out, List.append_assoc]; rfl)
          go_upto_region 6 with (first | (refine region_quiet (by kernel_rfl) (by kernel_rfl) ?_; (repeat (go_big_quiet_step ((go_at_call 85; exact (l2Less_r hr hzo Hc.out _).mono (by rintro e w' ⟨rfl, y, rfl⟩; first | exact ⟨rfl, _, ext_ext _ _⟩ | exact ⟨rfl, _, by rw [ext_ext, Ext.app_assoc]⟩ | exact ⟨rfl, _, by rw [ext_ext, Ext.app_assoc, Ext.app_assoc]⟩ | exact ⟨rfl, _, by rw [ext_ext, Ext.app_assoc, Ext.app_assoc, Ext.app_assoc]⟩))))); refine wpQuiet_nil ?_; rintro _ ⟨x, rfl⟩) | (refine region_quiet (by kernel_rfl) (by kernel_rfl) ?_; (repeat (go_big_quiet_step (fail))); refine wpQuiet_nil ?_; rintro _ ⟨x, rfl⟩))
          have hcapk : k ≤ cap := by omega
          have hoff : ∃ off, (if cap = k then (some ⟨b, o, none⟩ : Option Addr) else some ⟨b, o + k * 4, none⟩) = some ⟨b, off, none⟩ ∧ Sl w (some ⟨b, off, none⟩) (cs.drop k) := by
            by_cases hce : cap = k
            · refine ⟨o, by rw [if_pos hce], fun j hj => ?_⟩
              rw [List.length_drop] at hj
              omega
            · exact ⟨_, by rw [if_neg hce], Hz.out.drop' k hk⟩
          obtain ⟨off, hif, hzd⟩ := hoff
          have Hzf := Lib.hid hzd
          clear hzd
          have hlt' : (cs.take k).length = k := by rw [List.length_take]; omega
          have hld : (cs.drop k).length = cs.length - k := by rw [List.length_drop]
          have hi1 : (k : Int) ≤ (cap : Int) := by omega
          have hi3 : (k : Int) ≤ (cs.length : Int) := by omega
          have hi7 : (cs.length : Int) ≤ (cap : Int) := by omega
          (try simp only [ext_ext])
          generalize hw0 : (ext (w.alloc (.cells #[.int .i64 c.a, .int .i64 c.b, .int .i64 c.c, .int .i64 c.d] 29)) _) = w0
          have hE0 : Ex (w.alloc (.cells #[.int .i64 c.a, .int .i64 c.b, .int .i64 c.c, .int .i64 c.d] 29)) w0 := ⟨_, hw0.symm⟩
          clear hw0
          have hB4 := Box4.new w c.a c.b c.c c.d
          have hEB : Ex w (w.alloc (.cells #[.int .i64 c.a, .int .i64 c.b, .int .i64 c.c, .int .i64 c.d] 29)) := by repeat (first | exact Ex.refl _ | refine Ex.ext ?_ _ | refine Ex.alloc ?_ _ | refine Ex.drew ?_)
          generalize (w.alloc (.cells #[.int .i64 c.a, .int .i64 c.b, .int .i64 c.c, .int .i64 c.d] 29)) = wB at *
          obtain ⟨b0, c0, cc1, c2, c3⟩ := hB4.ex hE0
          have hEw : Ex w w0 := Ex.trans hEB hE0
          go_region_held3 (fun w' => w'.cell? ⟨w.heap.size, 0, none⟩ = some (.int .i64 c.a) ∧ w'.cell? ⟨w.heap.size, 1, none⟩ = some (.int .i64 c.b) ∧ w'.cell? ⟨w.heap.size, 2, none⟩ = some (.int .i64 c.c) ∧ w'.cell? ⟨w.heap.size, 3, none⟩ = some (.int .i64 c.d))
            (first | go_keep | (have hq4 := hB4.ex (by assumption); exact ⟨hq4.c0, hq4.c1, hq4.c2, hq4.c3⟩))
            (first | (go_at_call 53; refine (l2Own_n2 hlt' (by omega) ((Hz.out.take k).ex (hEw.trans (by exact by repeat (first | exact Ex.refl _ | refine Ex.ext ?_ _ | refine Ex.alloc ?_ _ | refine Ex.drew ?_))))).mono ?_; rintro e w1 ⟨g1, c1, rfl, hx, hr1⟩; have hown := own_base hr1.own (Ex.below (hE0.trans (by exact by repeat (first | exact Ex.refl _ | refine Ex.ext ?_ _ | refine Ex.alloc ?_ _ | refine Ex.drew ?_)))).size; have hE := Ex.trans (hE0.trans (by exact by repeat (first | exact Ex.refl _ | refine Ex.ext ?_ _ | refine Ex.alloc ?_ _ | refine Ex.drew ?_))) hx) |
              (refine step_appsN (W0 := wB) rfl (hE.trans (by exact by repeat (first | exact Ex.refl _ | refine Ex.ext ?_ _ | refine Ex.alloc ?_ _ | refine Ex.drew ?_))) (by rfl) _ _ (by rfl) (.slice (some ⟨g1, 0, none⟩) k c1) k (cs.take k) (by rfl) (by rw [hlt'] at hown; exact own_exx hown (by exact by repeat (first | exact Ex.refl _ | refine Ex.ext ?_ _ | refine Ex.alloc ?_ _ | refine Ex.drew ?_))) 1 [c] (by rfl) (Or.inr ⟨_, 0, 1, rfl, by first | (refine sl_one ?_ ?_ ?_ ?_ ?_ <;> (go_simp; done)) | (refine Sl.ex ?_ (hx.trans (by exact by repeat (first | exact Ex.refl _ | refine Ex.ext ?_ _ | refine Ex.alloc ?_ _ | refine Ex.drew ?_))); refine sl_one ?_ ?_ ?_ ?_ ?_ <;> (go_simp; done))⟩) (by omega) ?_; intro p2 c2 w2 hown2 hp2 hnn2 hE2) |
              (refine step_appsN (W0 := wB) rfl (hE2.trans (by exact by repeat (first | exact Ex.refl _ | refine Ex.ext ?_ _ | refine Ex.alloc ?_ _ | refine Ex.drew ?_))) (by rfl) _ _ (by rfl) _ (k + 1) (cs.take k ++ [c]) (by rfl) (own_exx hown2 (by exact by repeat (first | exact Ex.refl _ | refine Ex.ext ?_ _ | refine Ex.alloc ?_ _ | refine Ex.drew ?_))) (cs.length - k) (cs.drop k) hld (Or.inr ⟨b, off, cap - k, by rw [hld]; rfl, Hzf.out.ex (hEB.trans (hE2.trans (by exact by repeat (first | exact Ex.refl _ | refine Ex.ext ?_ _ | refine Ex.alloc ?_ _ | refine Ex.drew ?_))))⟩) (by omega) ?_; intro p3 c3 w3 hown3 hp3 hnn3 hE3))
          all_goals
            go_wp2
            go_ret
            have hne : p3 ≠ none := fun e => by have := (hnn3 e).1; simp at this
            have hl3 : (cs.take k ++ [c] ++ cs.drop k).length = k + 1 + (cs.length - k) := by simp only [List.length_append, hlt', hld, List.length_cons, List.length_nil]
            rw [HP.out, hl3]
            obtain ⟨g3, rfl, hr3⟩ := own_some hown3 hne
            exact ⟨g3, c3, rfl, hEB.trans hE3, hr3.low hEB.below.size⟩
        · have Hzc := Lib.hid (show z = c from (ceq_iff z c).1 hq)
          go_upto_region 5 with (first | (refine region_quiet (by kernel_rfl) (by kernel_rfl) ?_; (repeat (go_big_quiet_step ((go_at_call 85; exact (l2Less_r hr hzo Hc.out _).mono (by rintro e w' ⟨rfl, y, rfl⟩; first | exact ⟨rfl, _, ext_ext _ _⟩ | exact ⟨rfl, _, by rw [ext_ext, Ext.app_assoc]⟩ | exact ⟨rfl, _, by rw [ext_ext, Ext.app_assoc, Ext.app_assoc]⟩ | exact ⟨rfl, _, by rw [ext_ext, Ext.app_assoc, Ext.app_assoc, Ext.app_assoc]⟩))))); refine wpQuiet_nil ?_; rintro _ ⟨x, rfl⟩) | (refine region_quiet (by kernel_rfl) (by kernel_rfl) ?_; (repeat (go_big_quiet_step (fail))); refine wpQuiet_nil ?_; rintro _ ⟨x, rfl⟩))
          go_wp2_with ((go_at_call 53; refine (l2Own_n2 rfl (by omega) (Hz.out.ex (by exact by repeat (first | exact Ex.refl _ | refine Ex.ext ?_ _ | refine Ex.alloc ?_ _ | refine Ex.drew ?_)))).mono ?_; rintro e w1 ⟨g1, c1, rfl, hx, hr1⟩))
          go_ret
          have hE1 := Ex.trans (show Ex w _ by exact by repeat (first | exact Ex.refl _ | refine Ex.ext ?_ _ | refine Ex.alloc ?_ _ | refine Ex.drew ?_)) hx
          have e : putC cs c = cs := by
            rw [Hsk.out, Hd.out, putC, if_neg (show ¬ num z < num c by have := Hnr.out; omega), if_pos Hzc.out, ← Hd.out, List.take_append_drop]
          rw [e]
          exact ⟨g1, c1, rfl, hE1, own_base hr1.own (Ex.below (show Ex w _ by exact by repeat (first | exact Ex.refl _ | refine Ex.ext ?_ _ | refine Ex.alloc ?_ _ | refine Ex.drew ?_))).size⟩
      · go_wp2_with (refine region_quiet (by kernel_rfl) (by kernel_rfl) ?_; (repeat (go_big_quiet_step ((go_at_call 85; exact (l2Less_r hr hzo Hc.out _).mono (by rintro e w' ⟨rfl, y, rfl⟩; first | exact ⟨rfl, _, ext_ext _ _⟩ | exact ⟨rfl, _, by rw [ext_ext, Ext.app_assoc]⟩ | exact ⟨rfl, _, by rw [ext_ext, Ext.app_assoc, Ext.app_assoc]⟩ | exact ⟨rfl, _, by rw [ext_ext, Ext.app_assoc, Ext.app_assoc, Ext.app_assoc]⟩))))); refine wpQuiet_nil ?_; rintro _ ⟨x, rfl⟩)
        go_roundw
        case rel =>
          refine ⟨k + 1, by omega, by go_num, by repeat (first | exact Ex.refl _ | refine Ex.ext ?_ _ | refine Ex.alloc ?_ _ | refine Ex.drew ?_), fun j hj hjk => ?_⟩
          by_cases e : j = k
          · subst e
            have := Hg.out
            rw [List.getElem?_eq_getElem hj] at this
            rw [Option.some.inj this]
            exact of_decide_eq_true hr
          · exact Hf.out j hj (by omega)
        case measure => simp [intOf]; omega
    · have Hkn := Lib.hid (show k = cs.length by omega)
      have hnlt : ¬ ((k : Int) < (cs.length : Int)) := by omega
      have Hsk := Lib.hid (putC_skip cs k hk Hf.out)
      have HP := Lib.hid (show putC cs c = cs.take k ++ [c] ++ cs.drop k by rw [Hsk.out, show cs.drop k = [] by rw [Hkn.out, List.drop_length]]; simp [putC])
      go_upto_region 6 with (first | (refine region_quiet (by kernel_rfl) (by kernel_rfl) ?_; (repeat (go_big_quiet_step (fail))); refine wpQuiet_nil ?_; rintro _ ⟨x, rfl⟩))
      have hcapk : k ≤ cap := by omega
      have hoff : ∃ off, (if cap = k then (some ⟨b, o, none⟩ : Option Addr) else some ⟨b, o + k * 4, none⟩) = some ⟨b, off, none⟩ ∧ Sl w (some ⟨b, off, none⟩) (cs.drop k) := by
        by_cases hce : cap = k
        · refine ⟨o, by rw [if_pos hce], fun j hj => ?_⟩
          rw [List.length_drop] at hj
          omega
        · exact ⟨_, by rw [if_neg hce], Hz.out.drop' k hk⟩
      obtain ⟨off, hif, hzd⟩ := hoff
      have Hzf := Lib.hid hzd
      clear hzd
      have hlt' : (cs.take k).length = k := by rw [List.length_take]; omega
      have hld : (cs.drop k).length = cs.length - k := by rw [List.length_drop]
      have hi1 : (k : Int) ≤ (cap : Int) := by omega
      have hi3 : (k : Int) ≤ (cs.length : Int) := by omega
      have hi7 : (cs.length : Int) ≤ (cap : Int) := by omega
      (try simp only [ext_ext])
      generalize hw0 : (ext (w.alloc (.cells #[.int .i64 c.a, .int .i64 c.b, .int .i64 c.c, .int .i64 c.d] 29)) _) = w0
      have hE0 : Ex (w.alloc (.cells #[.int .i64 c.a, .int .i64 c.b, .int .i64 c.c, .int .i64 c.d] 29)) w0 := ⟨_, hw0.symm⟩
      clear hw0
      have hB4 := Box4.new w c.a c.b c.c c.d
      have hEB : Ex w (w.alloc (.cells #[.int .i64 c.a, .int .i64 c.b, .int .i64 c.c, .int .i64 c.d] 29)) := by repeat (first | exact Ex.refl _ | refine Ex.ext ?_ _ | refine Ex.alloc ?_ _ | refine Ex.drew ?_)
      generalize (w.alloc (.cells #[.int .i64 c.a, .int .i64 c.b, .int .i64 c.c, .int .i64 c.d] 29)) = wB at *
      obtain ⟨b0, c0, cc1, c2, c3⟩ := hB4.ex hE0
      have hEw : Ex w w0 := Ex.trans hEB hE0
      go_region_held3 (fun w' => w'.cell? ⟨w.heap.size, 0, none⟩ = some (.int .i64 c.a) ∧ w'.cell? ⟨w.heap.size, 1, none⟩ = some (.int .i64 c.b) ∧ w'.cell? ⟨w.heap.size, 2, none⟩ = some (.int .i64 c.c) ∧ w'.cell? ⟨w.heap.size, 3, none⟩ = some (.int .i64 c.d))
        (first | go_keep | (have hq4 := hB4.ex (by assumption); exact ⟨hq4.c0, hq4.c1, hq4.c2, hq4.c3⟩))
        (first | (go_at_call 53; refine (l2Own_n2 hlt' (by omega) ((Hz.out.take k).ex (hEw.trans (by exact by repeat (first | exact Ex.refl _ | refine Ex.ext ?_ _ | refine Ex.alloc ?_ _ | refine Ex.drew ?_))))).mono ?_; rintro e w1 ⟨g1, c1, rfl, hx, hr1⟩; have hown := own_base hr1.own (Ex.below (hE0.trans (by exact by repeat (first | exact Ex.refl _ | refine Ex.ext ?_ _ | refine Ex.alloc ?_ _ | refine Ex.drew ?_)))).size; have hE := Ex.trans (hE0.trans (by exact by repeat (first | exact Ex.refl _ | refine Ex.ext ?_ _ | refine Ex.alloc ?_ _ | refine Ex.drew ?_))) hx) |
          (refine step_appsN (W0 := wB) rfl (hE.trans (by exact by repeat (first | exact Ex.refl _ | refine Ex.ext ?_ _ | refine Ex.alloc ?_ _ | refine Ex.drew ?_))) (by rfl) _ _ (by rfl) (.slice (some ⟨g1, 0, none⟩) k c1) k (cs.take k) (by rfl) (by rw [hlt'] at hown; exact own_exx hown (by exact by repeat (first | exact Ex.refl _ | refine Ex.ext ?_ _ | refine Ex.alloc ?_ _ | refine Ex.drew ?_))) 1 [c] (by rfl) (Or.inr ⟨_, 0, 1, rfl, by first | (refine sl_one ?_ ?_ ?_ ?_ ?_ <;> (go_simp; done)) | (refine Sl.ex ?_ (hx.trans (by exact by repeat (first | exact Ex.refl _ | refine Ex.ext ?_ _ | refine Ex.alloc ?_ _ | refine Ex.drew ?_))); refine sl_one ?_ ?_ ?_ ?_ ?_ <;> (go_simp; done))⟩) (by omega) ?_; intro p2 c2 w2 hown2 hp2 hnn2 hE2) |
          (refine step_appsN (W0 := wB) rfl (hE2.trans (by exact by repeat (first | exact Ex.refl _ | refine Ex.ext ?_ _ | refine Ex.alloc ?_ _ | refine Ex.drew ?_))) (by rfl) _ _ (by rfl) _ (k + 1) (cs.take k ++ [c]) (by rfl) (own_exx hown2 (by exact by repeat (first | exact Ex.refl _ | refine Ex.ext ?_ _ | refine Ex.alloc ?_ _ | refine Ex.drew ?_))) (cs.length - k) (cs.drop k) hld (Or.inr ⟨b, off, cap - k, by rw [hld]; rfl, Hzf.out.ex (hEB.trans (hE2.trans (by exact by repeat (first | exact Ex.refl _ | refine Ex.ext ?_ _ | refine Ex.alloc ?_ _ | refine Ex.drew ?_))))⟩) (by omega) ?_; intro p3 c3 w3 hown3 hp3 hnn3 hE3))
      all_goals
        go_wp2
        go_ret
        have hne : p3 ≠ none := fun e => by have := (hnn3 e).1; simp at this
        have hl3 : (cs.take k ++ [c] ++ cs.drop k).length = k + 1 + (cs.length - k) := by simp only [List.length_append, hlt', hld, List.length_cons, List.length_nil]
        rw [HP.out, hl3]
        obtain ⟨g3, rfl, hr3⟩ := own_some hown3 hne
        exact ⟨g3, c3, rfl, hEB.trans hE3, hr3.low hEB.below.size⟩
end Go.Proofs.Ytnjfkgggebhelaa
