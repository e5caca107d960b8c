/- The walks of l4Deal and IsDeal. -/
import Derived.Test.YtkelmfdbcicojaaDealA
namespace Go.Proofs.Ytkelmfdbcicojaa
set_option linter.unusedSimpArgs false
set_option linter.unusedVariables false
set_option maxHeartbeats 1000000
set_option maxRecDepth 100000
open Go.RowKit


theorem l2Has_r {w0 w : World} {cs : List C4} {c : C4} {p : Option Addr} {n cap : Nat} {r : Bool} (hl : cs.length = n) (hr : hasB cs c = r) (hz : Sl w0 p cs) (hn : n ≤ 1000000000000) (hE : Ex w0 w) :
    Calls Try.prog 107 #[.slice p n cap, .agg #[.int .i64 c.a, .int .i64 c.b, .int .i64 c.c, .int .i64 c.d]] w fun e w' => e = .returned (.bool r) ∧ Ex w w' := by
  subst hl; subst hr; exact l2Has_c cs c p cap w hn (hz.ex hE)
theorem has_r {w0 w : World} {cs : List C4} {c : C4} {p : Option Addr} {n cap : Nat} {r : Bool} (hl : cs.length = n) (hr : hasB cs c = r) (hz : Sl w0 p cs) (hn : n ≤ 1000000000000) (hE : Ex w0 w) :
    Calls Try.prog 112 #[.slice p n cap, .agg #[.int .i64 c.a, .int .i64 c.b, .int .i64 c.c, .int .i64 c.d]] w fun e w' => e = .returned (.bool r) ∧ Ex w w' := by
  subst hl; subst hr; exact has_c cs c p cap w hn (hz.ex hE)

theorem takeP (s : Int) {N : Nat} (h : N ≤ 81) : ((pileR s).take N).length = N := by rw [List.length_take, pileR_length]; omega
theorem dealB_split {s n : Int} {cs : List C4} (h1 : isSeed s = true) (h2 : inR n 0 81 = true) : dealB s n cs = laidB ((pileR s).take n.toNat) cs := by simp [dealB, h1, h2]

theorem l4Deal_c (s n : Int) (cs : List C4) (p : Option Addr) (cap : Nat) (w : World) (hcap : cs.length ≤ cap) (hc2 : cap ≤ 1000000000000) (hz : Sl w p cs) :
    Calls Try.prog 63 #[.agg #[.int .i64 s, .int .i64 n, .slice p cs.length cap]] w fun e w' => e = .returned (.bool (dealB s n cs)) ∧ Ex w w' := by
  have Hz := Lib.hid hz
  clear hz
  cases h1 : isSeed s
  · have hR : dealB s n cs = false := by simp [dealB, h1]
    rw [hR]
    clear hR
    go_enter Try.func63, Try.ntmps63
    go_wp2_with (first | (go_at_call 105; refine (l4Seed_c _ _).mono ?_; rintro e w' ⟨rfl, x, rfl⟩; rw [h1]) | (go_at_call 83; refine (l1In_c _ _ _ _).mono ?_; rintro e w' ⟨rfl, x, rfl⟩; rw [h2]))
    go_ret
    exact ⟨rfl, by repeat (first | exact Ex.refl _ | refine Ex.ext ?_ _ | refine Ex.alloc ?_ _ | refine Ex.drew ?_)⟩
  · cases h2 : inR n 0 81
    · have hR : dealB s n cs = false := by simp [dealB, h1, h2]
      rw [hR]
      clear hR
      go_enter Try.func63, Try.ntmps63
      go_wp2_with (first | (go_at_call 105; refine (l4Seed_c _ _).mono ?_; rintro e w' ⟨rfl, x, rfl⟩; rw [h1]) | (go_at_call 83; refine (l1In_c _ _ _ _).mono ?_; rintro e w' ⟨rfl, x, rfl⟩; rw [h2]))
      go_ret
      exact ⟨rfl, by repeat (first | exact Ex.refl _ | refine Ex.ext ?_ _ | refine Ex.alloc ?_ _ | refine Ex.drew ?_)⟩
    · have hb := isSeed_bd h1
      have hn := (inR_iff _ _ _).1 h2
      have hR := dealB_split (cs := cs) h1 h2
      rw [hR]
      clear hR
      obtain ⟨N, rfl⟩ : ∃ N : Nat, n = N := ⟨n.toNat, by omega⟩
      rw [Int.toNat_natCast]
      have hN : N ≤ 81 := by omega
      have hN0 : (0 : Int) ≤ (N : Int) := by omega
      clear hn
      by_cases hlim : cs.length ≤ 81
      · have hlim' : ¬ ((81 : Int) < (cs.length : Int)) := by omega
        have hb0 := BoxD.new w s N p cs.length cap
        have hE0 : Ex w (w.alloc (.cells #[.int .i64 s, .int .i64 N, .slice p cs.length cap] 26)) := (Ex.refl w).alloc _
        go_enter Try.func63, Try.ntmps63
        go_wp2_with (first | (go_at_call 105; refine (l4Seed_c _ _).mono ?_; rintro e w1 ⟨rfl, hx⟩; rw [h1]; have hb0 := hb0.ex hx; have hE0 := hE0.trans hx; obtain ⟨a0, a1, a2, a3⟩ := id hb0; clear hx) |
          (go_at_call 83; refine (l1In_c _ _ _ _).mono ?_; rintro e w2 ⟨rfl, hx⟩; rw [h2]; have hb0 := hb0.ex hx; have hE0 := hE0.trans hx; clear a0 a1 a2 a3; obtain ⟨a0, a1, a2, a3⟩ := id hb0; clear hx))
        clear h2
        go_region_held3 (fun w' => w'.cell? ⟨w.heap.size, 0, none⟩ = some (.int .i64 s) ∧ w'.cell? ⟨w.heap.size, 1, none⟩ = some (.int .i64 N))
          (first | exact ⟨hb0.c0, hb0.c1⟩ | exact ⟨(hb0.ex ((Ex.refl _).drew)).c0, (hb0.ex ((Ex.refl _).drew)).c1⟩)
          (first | (go_at_call 106; refine (l4Pile_c _ hb.1 hb.2 _).mono ?_; rintro e w3 ⟨g, gcap, rfl, hx, hr⟩; have hb0 := (hb0.ex ((Ex.refl _).drew)).ex hx; have hE0 := hE0.drew.trans hx; have hgc : 81 ≤ gcap := hr.lens.1; have hgc1 : (N : Int) ≤ (gcap : Int) := (by omega); have hgc2 : N ≤ gcap := (by omega); have hP := ((hr.row (pileR_length s).symm).sl.take N); clear hx hr a0 a1 a2 a3; obtain ⟨a0, a1, a2, a3⟩ := id hb0))
        have hz3 := Lib.hid (Hz.out.ex hE0)
        have HE3 := Lib.hid hE0
        have HP := Lib.hid hP
        have HB3 := Lib.hid hb0
        have hlP := takeP s hN
        clear hP hb0 hgc hb
        go_wp2
        go_loopw [4] (fun v wr => ∃ k : Nat, k ≤ cs.length ∧ v = .int .i64 k ∧ Ex w3 wr ∧ ∀ i, i < k → laidAt ((pileR s).take N) cs i = true) (fun v _ => cs.length - (intOf v).toNat)
        case atStart => exact ⟨0, Nat.zero_le _, rfl, Ex.refl _, fun i hi => by omega⟩
        case round =>
          obtain ⟨k, hk, rfl, hE, hf⟩ := hrel
          have Hf := Lib.hid hf
          have HE := Lib.hid hE
          clear hf a0 a1 a2 a3
          obtain ⟨a0, a1, a2, a3⟩ := HB3.out.ex hE
          by_cases hlt : k < cs.length
          · have hslp := hz3.out.ex hE
            have hslk := hslp.take k
            have hslP := HP.out.ex hE
            obtain ⟨b, o, rfl, hb, e1, e2, e3, e4⟩ := hslp k hlt
            have hlk : (cs.take k).length = k := by rw [List.length_take]; omega
            have Hg := Lib.hid (laidAt_get (P := (pileR s).take N) (List.getElem?_eq_getElem hlt))
            have hkc : (k : Int) ≤ (cap : Int) := by omega
            have hkc' : k ≤ cap := by omega
            generalize cs[k] = z at *
            cases g1 : hasB ((pileR s).take N) z
            · go_wp2_with (first | (refine region_quiet (by kernel_rfl) (by kernel_rfl) ?_; (repeat (go_big_quiet_step ((go_at_call 107; exact (l2Has_r (by assumption) (by assumption) (by assumption) (by omega) (by exact (by repeat (first | exact Ex.refl _ | assumption | refine Ex.ext ?_ _ | refine Ex.alloc ?_ _ | refine Ex.drew ?_ | refine Ex.trans ?_ (by assumption))))).mono (by rintro e w' ⟨rfl, y, rfl⟩; first | exact ⟨rfl, _, ext_ext _ _⟩ | exact ⟨rfl, _, by rw [ext_ext, Ext.app_assoc]⟩ | exact ⟨rfl, _, by rw [ext_ext, Ext.app_assoc, Ext.app_assoc]⟩))))); refine wpQuiet_nil ?_; rintro _ ⟨x, rfl⟩))
              go_ret
              exact ⟨ret_bool (laidB_no hlt (by rw [Hg.out, g1]; rfl)).symm, HE3.out.trans (by exact (by repeat (first | exact Ex.refl _ | assumption | refine Ex.ext ?_ _ | refine Ex.alloc ?_ _ | refine Ex.drew ?_ | refine Ex.trans ?_ (by assumption))))⟩
            · cases g2 : hasB (cs.take k) z
              all_goals go_wp2_with (first | (refine region_quiet (by kernel_rfl) (by kernel_rfl) ?_; (repeat (go_big_quiet_step ((go_at_call 107; exact (l2Has_r (by assumption) (by assumption) (by assumption) (by omega) (by exact (by repeat (first | exact Ex.refl _ | assumption | refine Ex.ext ?_ _ | refine Ex.alloc ?_ _ | refine Ex.drew ?_ | refine Ex.trans ?_ (by assumption))))).mono (by rintro e w' ⟨rfl, y, rfl⟩; first | exact ⟨rfl, _, ext_ext _ _⟩ | exact ⟨rfl, _, by rw [ext_ext, Ext.app_assoc]⟩ | exact ⟨rfl, _, by rw [ext_ext, Ext.app_assoc, Ext.app_assoc]⟩))))); refine wpQuiet_nil ?_; rintro _ ⟨x, rfl⟩))
              · go_roundw
                case rel =>
                  (try ((repeat apply Exists.intro); refine ⟨?_, rfl⟩))
                  refine ⟨k + 1, by omega, by go_num, (by exact (by repeat (first | exact Ex.refl _ | assumption | refine Ex.ext ?_ _ | refine Ex.alloc ?_ _ | refine Ex.drew ?_ | refine Ex.trans ?_ (by assumption)))), fun i hi => ?_⟩
                  by_cases hik : i = k
                  · subst hik; rw [Hg.out, g1, g2]; rfl
                  · exact Hf.out i (by omega)
                case measure => simp [intOf]; omega
              · go_ret
                exact ⟨ret_bool (laidB_no hlt (by rw [Hg.out, g1, g2]; rfl)).symm, HE3.out.trans (by exact (by repeat (first | exact Ex.refl _ | assumption | refine Ex.ext ?_ _ | refine Ex.alloc ?_ _ | refine Ex.drew ?_ | refine Ex.trans ?_ (by assumption))))⟩
          · have : k = cs.length := by omega
            subst this
            go_wp2
            go_ret
            exact ⟨ret_bool (laidB_all Hf.out).symm, HE3.out.trans (by exact (by repeat (first | exact Ex.refl _ | assumption | refine Ex.ext ?_ _ | refine Ex.alloc ?_ _ | refine Ex.drew ?_ | refine Ex.trans ?_ (by assumption))))⟩
      · have hR : laidB ((pileR s).take N) cs = false := by
          cases hl : laidB ((pileR s).take N) cs
          · rfl
          · have := laid_len (s := s) (n := (N : Int)) (by omega) (by simpa using hl)
            omega
        rw [hR]
        clear hR
        have hlim' : (81 : Int) < (cs.length : Int) := by omega
        go_enter Try.func63, Try.ntmps63
        go_wp2_with (first | (go_at_call 105; refine (l4Seed_c _ _).mono ?_; rintro e w' ⟨rfl, x, rfl⟩; rw [h1]) | (go_at_call 83; refine (l1In_c _ _ _ _).mono ?_; rintro e w' ⟨rfl, x, rfl⟩; rw [h2]))
        go_ret
        exact ⟨rfl, by repeat (first | exact Ex.refl _ | refine Ex.ext ?_ _ | refine Ex.alloc ?_ _ | refine Ex.drew ?_)⟩

theorem implIsDeal_c (s n : Int) (cs : List C4) (p : Option Addr) (cap : Nat) (w : World) (hcap : cs.length ≤ cap) (hc2 : cap ≤ 1000000000000) (hz : Sl w p cs) :
    Calls Try.prog 66 #[.agg #[.int .i64 s, .int .i64 n, .slice p cs.length cap]] w fun e w' => e = .returned (.bool (dealB s n cs)) ∧ Ex w w' := by
  have Hz := Lib.hid hz
  clear hz
  cases h1 : isSeed s
  · have hR : dealB s n cs = false := by simp [dealB, h1]
    rw [hR]
    clear hR
    go_enter Try.func66, Try.ntmps66
    go_wp2_with (first | (go_at_call 80; refine (isSeed_c _ _).mono ?_; rintro e w' ⟨rfl, x, rfl⟩; rw [h1]) | (go_at_call 86; refine (within_c _ _ _ _).mono ?_; rintro e w' ⟨rfl, x, rfl⟩; rw [h2]))
    go_ret
    exact ⟨rfl, by repeat (first | exact Ex.refl _ | refine Ex.ext ?_ _ | refine Ex.alloc ?_ _ | refine Ex.drew ?_)⟩
  · cases h2 : inR n 0 81
    · have hR : dealB s n cs = false := by simp [dealB, h1, h2]
      rw [hR]
      clear hR
      go_enter Try.func66, Try.ntmps66
      go_wp2_with (first | (go_at_call 80; refine (isSeed_c _ _).mono ?_; rintro e w' ⟨rfl, x, rfl⟩; rw [h1]) | (go_at_call 86; refine (within_c _ _ _ _).mono ?_; rintro e w' ⟨rfl, x, rfl⟩; rw [h2]))
      go_ret
      exact ⟨rfl, by repeat (first | exact Ex.refl _ | refine Ex.ext ?_ _ | refine Ex.alloc ?_ _ | refine Ex.drew ?_)⟩
    · have hb := isSeed_bd h1
      have hn := (inR_iff _ _ _).1 h2
      have hR := dealB_split (cs := cs) h1 h2
      rw [hR]
      clear hR
      obtain ⟨N, rfl⟩ : ∃ N : Nat, n = N := ⟨n.toNat, by omega⟩
      rw [Int.toNat_natCast]
      have hN : N ≤ 81 := by omega
      have hN0 : (0 : Int) ≤ (N : Int) := by omega
      clear hn
      by_cases hlim : cs.length ≤ N
      · have hlim' : ¬ ((N : Int) < (cs.length : Int)) := by omega
        have hb0 := BoxD.new w s N p cs.length cap
        have hE0 : Ex w (w.alloc (.cells #[.int .i64 s, .int .i64 N, .slice p cs.length cap] 26)) := (Ex.refl w).alloc _
        go_enter Try.func66, Try.ntmps66
        go_wp2_with (first | (go_at_call 80; refine (isSeed_c _ _).mono ?_; rintro e w1 ⟨rfl, hx⟩; rw [h1]; have hb0 := hb0.ex hx; have hE0 := hE0.trans hx; obtain ⟨a0, a1, a2, a3⟩ := id hb0; clear hx) |
          (go_at_call 86; refine (within_c _ _ _ _).mono ?_; rintro e w2 ⟨rfl, hx⟩; rw [h2]; have hb0 := hb0.ex hx; have hE0 := hE0.trans hx; clear a0 a1 a2 a3; obtain ⟨a0, a1, a2, a3⟩ := id hb0; clear hx))
        clear h2
        go_region_held3 (fun w' => w'.cell? ⟨w.heap.size, 0, none⟩ = some (.int .i64 s) ∧ w'.cell? ⟨w.heap.size, 1, none⟩ = some (.int .i64 N))
          (first | exact ⟨hb0.c0, hb0.c1⟩ | exact ⟨(hb0.ex ((Ex.refl _).drew)).c0, (hb0.ex ((Ex.refl _).drew)).c1⟩)
          (first | (go_at_call 111; refine (pile_c _ hb.1 hb.2 _).mono ?_; rintro e w3 ⟨g, gcap, rfl, hx, hr⟩; have hb0 := (hb0.ex ((Ex.refl _).drew)).ex hx; have hE0 := hE0.drew.trans hx; have hgc : 81 ≤ gcap := hr.lens.1; have hgc1 : (N : Int) ≤ (gcap : Int) := (by omega); have hgc2 : N ≤ gcap := (by omega); have hP := ((hr.row (pileR_length s).symm).sl.take N); clear hx hr a0 a1 a2 a3; obtain ⟨a0, a1, a2, a3⟩ := id hb0))
        have hz3 := Lib.hid (Hz.out.ex hE0)
        have HE3 := Lib.hid hE0
        have HP := Lib.hid hP
        have HB3 := Lib.hid hb0
        have hlP := takeP s hN
        clear hP hb0 hgc hb
        go_wp2
        go_loopw [33] (fun v wr => ∃ k : Nat, k ≤ cs.length ∧ v = .int .i64 k ∧ Ex w3 wr ∧ ∀ i, i < k → laidAt ((pileR s).take N) cs i = true) (fun v _ => cs.length - (intOf v).toNat)
        case atStart => exact ⟨0, Nat.zero_le _, rfl, Ex.refl _, fun i hi => by omega⟩
        case round =>
          obtain ⟨k, hk, rfl, hE, hf⟩ := hrel
          have Hf := Lib.hid hf
          have HE := Lib.hid hE
          clear hf a0 a1 a2 a3
          obtain ⟨a0, a1, a2, a3⟩ := HB3.out.ex hE
          by_cases hlt : k < cs.length
          · have hslp := hz3.out.ex hE
            have hslk := hslp.take k
            have hslP := HP.out.ex hE
            obtain ⟨b, o, rfl, hb, e1, e2, e3, e4⟩ := hslp k hlt
            have hlk : (cs.take k).length = k := by rw [List.length_take]; omega
            have Hg := Lib.hid (laidAt_get (P := (pileR s).take N) (List.getElem?_eq_getElem hlt))
            have hkc : (k : Int) ≤ (cap : Int) := by omega
            have hkc' : k ≤ cap := by omega
            generalize cs[k] = z at *
            cases g1 : hasB ((pileR s).take N) z
            · go_wp2_with (first | (refine region_quiet (by kernel_rfl) (by kernel_rfl) ?_; (repeat (go_big_quiet_step ((go_at_call 112; exact (has_r (by assumption) (by assumption) (by assumption) (by omega) (by exact (by repeat (first | exact Ex.refl _ | assumption | refine Ex.ext ?_ _ | refine Ex.alloc ?_ _ | refine Ex.drew ?_ | refine Ex.trans ?_ (by assumption))))).mono (by rintro e w' ⟨rfl, y, rfl⟩; first | exact ⟨rfl, _, ext_ext _ _⟩ | exact ⟨rfl, _, by rw [ext_ext, Ext.app_assoc]⟩ | exact ⟨rfl, _, by rw [ext_ext, Ext.app_assoc, Ext.app_assoc]⟩))))); refine wpQuiet_nil ?_; rintro _ ⟨x, rfl⟩))
              go_ret
              exact ⟨ret_bool (laidB_no hlt (by rw [Hg.out, g1]; rfl)).symm, HE3.out.trans (by exact (by repeat (first | exact Ex.refl _ | assumption | refine Ex.ext ?_ _ | refine Ex.alloc ?_ _ | refine Ex.drew ?_ | refine Ex.trans ?_ (by assumption))))⟩
            · cases g2 : hasB (cs.take k) z
              all_goals go_wp2_with (first | (refine region_quiet (by kernel_rfl) (by kernel_rfl) ?_; (repeat (go_big_quiet_step ((go_at_call 112; exact (has_r (by assumption) (by assumption) (by assumption) (by omega) (by exact (by repeat (first | exact Ex.refl _ | assumption | refine Ex.ext ?_ _ | refine Ex.alloc ?_ _ | refine Ex.drew ?_ | refine Ex.trans ?_ (by assumption))))).mono (by rintro e w' ⟨rfl, y, rfl⟩; first | exact ⟨rfl, _, ext_ext _ _⟩ | exact ⟨rfl, _, by rw [ext_ext, Ext.app_assoc]⟩ | exact ⟨rfl, _, by rw [ext_ext, Ext.app_assoc, Ext.app_assoc]⟩))))); refine wpQuiet_nil ?_; rintro _ ⟨x, rfl⟩))
              · go_roundw
                case rel =>
                  (try ((repeat apply Exists.intro); refine ⟨?_, rfl⟩))
                  refine ⟨k + 1, by omega, by go_num, (by exact (by repeat (first | exact Ex.refl _ | assumption | refine Ex.ext ?_ _ | refine Ex.alloc ?_ _ | refine Ex.drew ?_ | refine Ex.trans ?_ (by assumption)))), fun i hi => ?_⟩
                  by_cases hik : i = k
                  · subst hik; rw [Hg.out, g1, g2]; rfl
                  · exact Hf.out i (by omega)
                case measure => simp [intOf]; omega
              · go_ret
                exact ⟨ret_bool (laidB_no hlt (by rw [Hg.out, g1, g2]; rfl)).symm, HE3.out.trans (by exact (by repeat (first | exact Ex.refl _ | assumption | refine Ex.ext ?_ _ | refine Ex.alloc ?_ _ | refine Ex.drew ?_ | refine Ex.trans ?_ (by assumption))))⟩
          · have : k = cs.length := by omega
            subst this
            go_wp2
            go_ret
            exact ⟨ret_bool (laidB_all Hf.out).symm, HE3.out.trans (by exact (by repeat (first | exact Ex.refl _ | assumption | refine Ex.ext ?_ _ | refine Ex.alloc ?_ _ | refine Ex.drew ?_ | refine Ex.trans ?_ (by assumption))))⟩
      · have hR : laidB ((pileR s).take N) cs = false := by
          cases hl : laidB ((pileR s).take N) cs
          · rfl
          · have := laid_len (s := s) (n := (N : Int)) (by omega) (by simpa using hl)
            omega
        rw [hR]
        clear hR
        have hlim' : (N : Int) < (cs.length : Int) := by omega
        go_enter Try.func66, Try.ntmps66
        go_wp2_with (first | (go_at_call 80; refine (isSeed_c _ _).mono ?_; rintro e w' ⟨rfl, x, rfl⟩; rw [h1]) | (go_at_call 86; refine (within_c _ _ _ _).mono ?_; rintro e w' ⟨rfl, x, rfl⟩; rw [h2]))
        go_ret
        exact ⟨rfl, by repeat (first | exact Ex.refl _ | refine Ex.ext ?_ _ | refine Ex.alloc ?_ _ | refine Ex.drew ?_)⟩
end Go.Proofs.Ytkelmfdbcicojaa
