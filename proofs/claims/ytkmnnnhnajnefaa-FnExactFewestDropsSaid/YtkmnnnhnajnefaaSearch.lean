/- The walk of l3Search. -/
import Derived.Test.YtkmnnnhnajnefaaPool
namespace Go.Proofs.Ytkmnnnhnajnefaa
set_option linter.unusedSimpArgs false
set_option linter.unusedVariables false
set_option maxHeartbeats 1000000
set_option maxRecDepth 100000
open Go.RowKit

theorem srch_len (cs : List C4) : ∀ d P i best, P.length ≤ best.length → best.length ≤ P.length + (i + d) → (srch cs d P i best).length ≤ P.length + (i + d) := by
  intro d
  induction d with
  | zero => intro P i best _ h; exact h
  | succ d ih =>
    intro P i best h1 h2
    rw [srch]
    split
    · exact h2
    · refine Nat.le_trans (ih P (i + 1) _ ?_ ?_) (by omega)
      · split
        · exact Nat.le_trans h1 (bestF_ge _ _)
        · exact h1
      · split
        · unfold bestF
          split
          · rw [srch_eq _ _ _ _ _ (Nat.le_refl _)]
            have hh : ∀ (V : List (List Nat)) (b : List Nat) (m : Nat), b.length ≤ m → (∀ Q ∈ V, Q.length ≤ m) → (runV bestF V b).length ≤ m := by
              intro V
              induction V with
              | nil => intro b m hb _; exact hb
              | cons x V ih =>
                intro b m hb h
                refine ih _ m ?_ fun Q hQ => h Q (by simp [hQ])
                unfold bestF
                split
                · exact h x (by simp)
                · exact hb
            refine hh _ _ _ (by simp; omega) fun Q hQ => ?_
            have := vis_len cs _ _ _ Q hQ
            simp at this
            omega
          · omega
        · omega

theorem l3Search_c (cs : List C4) (p : Option Addr) (cap : Nat) (hn : cs.length ≤ 15) (hok : ∀ z ∈ cs, Ok z) : ∀ (d : Nat) (P : List Nat) (i nP b2 cap2 lo : Nat) (ii : Int) (w : World), i + d = cs.length → ii = i → P.length = nP → nP ≤ i → (∀ x ∈ P, x < i) → Sl w p cs → RowV 3 1 lo w b2 cap2 nP (intVals (natInts P)) →
    Calls Try.prog 43 #[.slice p cs.length cap, .slice (some ⟨b2, 0, none⟩) nP cap2, .int .i64 ii] w fun e w' => ∃ g cap', e = .returned (.slice (some ⟨g, 0, none⟩) (srch cs d P i P).length cap') ∧ Ex w w' ∧ RowV 3 1 lo w' g cap' (srch cs d P i P).length (intVals (natInts (srch cs d P i P))) := by
  intro d
  induction d using Nat.strongRecOn with
  | _ d ih =>
  intro P i nP b2 cap2 lo ii w hid hii hP hPi hPlt hz hrow
  have hlow : lo ≤ w.heap.size := by have := hrow.blk; omega
  have Hz := Lib.hid hz
  have Hy := Lib.hid (RowI.sl (RowV.rowI hrow (by simp [hP])))
  have Hrow := Lib.hid hrow
  have Hok := Lib.hid hok
  have IH := Lib.hid ih
  have HPlt := Lib.hid hPlt
  clear hz hok ih hPlt hrow
  subst hii
  go_enter Try.func43, Try.ntmps43
  go_wp2
  go_loopw [7, 8] (fun u v wr => ∃ (k : Nat) (best : List Nat) (nb g cap' : Nat), i ≤ k ∧ k ≤ cs.length ∧ best.length = nb ∧ v = .int .i64 k ∧ u = .slice (some ⟨g, 0, none⟩) nb cap' ∧ Ex w wr ∧ RowV 3 1 lo wr g cap' nb (intVals (natInts best)) ∧ nP ≤ nb ∧ nb ≤ 100 ∧ srch cs d P i P = srch cs (cs.length - k) P k best) (fun _ v _ => cs.length - (intOf v).toNat)
  case atStart => exact ⟨i, P, nP, b2, cap2, Nat.le_refl _, by omega, hP, rfl, rfl, Ex.refl _, Hrow.out, Nat.le_refl _, by omega, by rw [show cs.length - i = d by omega]⟩
  case round =>
    obtain ⟨k, best, nb, g0, cap0, hik, hk, hnb, rfl, rfl, hE, hrb, hnb1, hnb2, hf⟩ := hrel
    have Hf := Lib.hid hf
    have Hnb := Lib.hid hnb
    have Hrb := Lib.hid hrb
    clear hf hnb hrb
    by_cases hlt : k < cs.length
    · obtain ⟨dd, hdd⟩ : ∃ dd, cs.length - k = dd + 1 := ⟨cs.length - k - 1, by omega⟩
      by_cases hstop : nP + cs.length ≤ k + nb
      · have Hbe := Lib.hid (show srch cs d P i P = best by rw [Hf.out, hdd, srch, if_pos (by rw [hP, Hnb.out]; omega)])
        go_wp2
        go_ret
        rw [Hbe.out]
        exact ⟨g0, cap0, by rw [Hnb.out]; rfl, hE, by rw [Hnb.out]; exact Hrb.out⟩
      · have hpk : ∀ x ∈ P, x < cs.length := fun x hx => by have := HPlt.out x hx; omega
        have Hpo := Lib.hid (pick_ok hpk Hok.out)
        have Hpk := Lib.hid hpk
        have HPk := Lib.hid (show ∀ x ∈ P ++ [k], x < k + 1 from fun x hx => by
          simp at hx
          rcases hx with hx | rfl
          · have := HPlt.out x hx; omega
          · omega)
        clear hpk
        have hz := Hz.out.ex hE
        obtain ⟨b, o, rfl, hb, e1, e2, e3, e4⟩ := hz k hlt
        have Hmay := Lib.hid (show mayT cs P k = decide (through (pick cs P) cs[k] = 0) by rw [mayT, List.getD_eq_getElem?_getD, List.getElem?_eq_getElem hlt]; rfl)
        generalize cs[k] = z at *
        have hlen2 : (pick cs P).length ≤ 1000 := by simp; omega
        have hlp : (pick cs P).length = nP := by rw [pick_length, hP]
        obtain ⟨t, ht⟩ : ∃ t, through (pick cs P) z = t := ⟨_, rfl⟩
        have htb : t ≤ 1000000 := by rw [← ht]; exact pairs_small hlen2
        rw [ht] at Hmay
        have Hs := Lib.hid (show srch cs (cs.length - k) P k best = srch cs dd P (k + 1) (if mayT cs P k then bestF (srch cs dd (P ++ [k]) (k + 1) (P ++ [k])) best else best) by rw [hdd, srch, if_neg (by rw [hP, Hnb.out]; omega)])
        have hk0 : Ex wr wr := Ex.refl _
        by_cases h0 : t = 0
        · have hmay : mayT cs P k = true := by rw [Hmay.out]; simp [h0]
          have h00 : decide ((t : Int) > 0) = false := by subst h0; rfl
          obtain ⟨nx, hnx⟩ : ∃ nx, (srch cs dd (P ++ [k]) (k + 1) (P ++ [k])).length = nx := ⟨_, rfl⟩
          have hnxb := srch_len cs dd (P ++ [k]) (k + 1) (P ++ [k]) (Nat.le_refl _) (by omega)
          have hnx1 : nP + 1 ≤ nx := by
            rw [← hnx, srch_eq _ _ _ _ _ (Nat.le_refl _)]
            have := best_ge (vis cs dd (P ++ [k]) (k + 1)) (P ++ [k])
            simp [hP] at this
            exact this
          rw [hnx] at hnxb
          have Hnx := Lib.hid hnx
          simp [hP] at hnxb
          clear hnx
          by_cases hb1 : nb < nx
          all_goals
            go_wp2
            go_region_held3 (fun w' => w'.cell? ⟨b, o + k * 4, none⟩ = some (.int .i64 z.a) ∧ w'.cell? ⟨b, o + k * 4 + 1, none⟩ = some (.int .i64 z.b) ∧ w'.cell? ⟨b, o + k * 4 + 2, none⟩ = some (.int .i64 z.c) ∧ w'.cell? ⟨b, o + k * 4 + 3, none⟩ = some (.int .i64 z.d))
              (first | go_keep | (rw [hk0.below.cell hb, hk0.below.cell hb, hk0.below.cell hb, hk0.below.cell hb]; exact ⟨e1, e2, e3, e4⟩))
              (first | (go_at_call 63; refine (l3Picked_n hP (by omega) (by omega) Hpk.out (hz.ex (by exact by repeat (first | exact Ex.refl _ | refine Ex.ext ?_ _ | refine Ex.alloc ?_ _ | refine Ex.drew ?_))) ((Hy.out.ex hE).ex (by exact by repeat (first | exact Ex.refl _ | refine Ex.ext ?_ _ | refine Ex.alloc ?_ _ | refine Ex.drew ?_)))).mono ?_; rintro e w1 ⟨g1, c1, rfl, hx, hr1⟩; have hk0 : Ex wr w1 := (Ex.trans (by exact by repeat (first | exact Ex.refl _ | refine Ex.ext ?_ _ | refine Ex.alloc ?_ _ | refine Ex.drew ?_)) hx); have hE := hE.trans hk0; have hr1 := (hr1.row hlp.symm); clear hx) |
                (go_at_call 62; refine (l2Through_r hlp ht (by omega) Hpo.out hr1.sl).mono ?_; rintro e w2 ⟨rfl, hx⟩; have hk0 := hk0.trans hx; have hE := hE.trans hx; clear hx))
            go_wp2_with (first | (go_at_call 64; refine (l1Own_c (natInts P) _ _ _ _ _ (by simp [hP]) (by omega) ((Hy.out.ex hE).ex (by exact by repeat (first | exact Ex.refl _ | refine Ex.ext ?_ _ | refine Ex.alloc ?_ _ | refine Ex.drew ?_)))).mono ?_; rintro e w3 ⟨g3, c3, rfl, hx3, hr3⟩; have hEq3 := hE.trans (Ex.trans (by exact by repeat (first | exact Ex.refl _ | refine Ex.ext ?_ _ | refine Ex.alloc ?_ _ | refine Ex.drew ?_)) hx3); have hsz3 := hE.below.size) |
              (at_builtin; refine wp_app rowInt (nW := _) (by simp [go_sem]) rfl _ _ rfl rfl (hr3.ex (Ex.refl _)) 1 1 [.int .i64 k] rfl rfl (one1 _) (by omega) ?c2 ?c3 ?_; (case c2 => (unfold maxLen; omega)); (case c3 => omega); intro g' cap'' wq hrow' hK hg') |
              (go_at_call 43; refine (IH.out dd (by omega) (P ++ [k]) (k + 1) (nP + 1) g' cap'' lo _ _ (by omega) (by simp) (by simp [hP]) (by omega) HPk.out (Hz.out.ex (Keeps.ex hEq3 hK (by have := hr3.blk; omega))) (by have := hrow'.low (lo' := lo) (by omega); rw [natInts_snoc, intVals_append]; exact this)).mono ?_; rw [Hnx.out]; rintro e w5 ⟨g5, c5, rfl, hx5, hr5⟩))
          · have hEq : Ex w wq := Keeps.ex hEq3 hK (by have := hr3.blk; omega)
            go_roundw
            case rel =>
              (try ((repeat apply Exists.intro); refine ⟨?_, rfl⟩))
              exact ⟨k + 1, srch cs dd (P ++ [k]) (k + 1) (P ++ [k]), nx, g5, c5, by omega, by omega, Hnx.out, by go_num, rfl, hEq.trans hx5, hr5, by omega, by omega, by rw [Hf.out, Hs.out, hmay, show cs.length - (k + 1) = dd by omega, if_pos rfl, bestF_yes (by rw [Hnx.out, Hnb.out]; exact hb1)]⟩
            case measure => simp [intOf]; omega
          · have hEq : Ex w wq := Keeps.ex hEq3 hK (by have := hr3.blk; omega)
            have hrb : RowV 3 1 lo _ g0 cap0 nb (intVals (natInts best)) := ((Hrb.out.ex (hk0.trans hx3)).keeps hK (by have := Hrb.out.blk; have := hk0.below.size; have := hr3.blk; omega)).ex hx5
            go_roundw
            case rel =>
              (try ((repeat apply Exists.intro); refine ⟨?_, rfl⟩))
              exact ⟨k + 1, best, nb, g0, cap0, by omega, by omega, Hnb.out, by go_num, rfl, hEq.trans hx5, hrb, by omega, by omega, by rw [Hf.out, Hs.out, hmay, show cs.length - (k + 1) = dd by omega, if_pos rfl, show bestF (srch cs dd (P ++ [k]) (k + 1) (P ++ [k])) best = best by unfold bestF; rw [if_neg (by rw [Hnx.out, Hnb.out]; exact hb1)]]⟩
            case measure => simp [intOf]; omega
        · have hmay : mayT cs P k = false := by rw [Hmay.out]; simp [h0]
          have h00 : decide ((t : Int) > 0) = true := decide_eq_true (by omega)
          go_wp2
          go_region_held3 (fun w' => w'.cell? ⟨b, o + k * 4, none⟩ = some (.int .i64 z.a) ∧ w'.cell? ⟨b, o + k * 4 + 1, none⟩ = some (.int .i64 z.b) ∧ w'.cell? ⟨b, o + k * 4 + 2, none⟩ = some (.int .i64 z.c) ∧ w'.cell? ⟨b, o + k * 4 + 3, none⟩ = some (.int .i64 z.d))
            (first | go_keep | (rw [hk0.below.cell hb, hk0.below.cell hb, hk0.below.cell hb, hk0.below.cell hb]; exact ⟨e1, e2, e3, e4⟩))
            (first | (go_at_call 63; refine (l3Picked_n hP (by omega) (by omega) Hpk.out (hz.ex (by exact by repeat (first | exact Ex.refl _ | refine Ex.ext ?_ _ | refine Ex.alloc ?_ _ | refine Ex.drew ?_))) ((Hy.out.ex hE).ex (by exact by repeat (first | exact Ex.refl _ | refine Ex.ext ?_ _ | refine Ex.alloc ?_ _ | refine Ex.drew ?_)))).mono ?_; rintro e w1 ⟨g1, c1, rfl, hx, hr1⟩; have hk0 : Ex wr w1 := (Ex.trans (by exact by repeat (first | exact Ex.refl _ | refine Ex.ext ?_ _ | refine Ex.alloc ?_ _ | refine Ex.drew ?_)) hx); have hE := hE.trans hk0; have hr1 := (hr1.row hlp.symm); clear hx) |
              (go_at_call 62; refine (l2Through_r hlp ht (by omega) Hpo.out hr1.sl).mono ?_; rintro e w2 ⟨rfl, hx⟩; have hk0 := hk0.trans hx; have hE := hE.trans hx; clear hx))
          go_wp2
          go_roundw
          case rel =>
            (try ((repeat apply Exists.intro); refine ⟨?_, rfl⟩))
            exact ⟨k + 1, best, nb, g0, cap0, by omega, by omega, Hnb.out, by go_num, rfl, hE, Hrb.out.ex hk0, hnb1, hnb2, by rw [Hf.out, Hs.out, hmay, show cs.length - (k + 1) = dd by omega]; rfl⟩
          case measure => simp [intOf]; omega
    · have : k = cs.length := by omega
      subst this
      have Hbe := Lib.hid (show srch cs d P i P = best by rw [Hf.out, Nat.sub_self]; rfl)
      go_wp2
      go_ret
      rw [Hbe.out]
      exact ⟨g0, cap0, by rw [Hnb.out]; rfl, hE, by rw [Hnb.out]; exact Hrb.out⟩
end Go.Proofs.Ytkmnnnhnajnefaa
