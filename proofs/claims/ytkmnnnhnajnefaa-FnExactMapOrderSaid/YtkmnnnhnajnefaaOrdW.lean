/- The walk of the program's MapOrder. -/
import Derived.Test.YtkmnnnhnajnefaaCyc
import Derived.Test.YtkmnnnhnajnefaaOrdP
namespace Go.Proofs.Ytkmnnnhnajnefaa
set_option linter.unusedSimpArgs false
set_option linter.unusedVariables false
set_option maxHeartbeats 1000000
set_option maxRecDepth 100000
open Go.RowKit

theorem keep_R {wr w' : World} {f : Nat → Int} {bm : Nat} (h : Ex wr w') (h1 : isRow wr bm 16 = true) (h2 : rowAt wr bm = mcells f) : isRow w' bm 16 = true ∧ rowAt w' bm = mcells f := by
  have hl : bm < wr.heap.size := by
    unfold isRow at h1
    split at h1
    · rename_i e; exact (Array.getElem?_eq_some_iff.1 e).1
    · simp at h1
  obtain ⟨x, rfl⟩ := h
  exact ⟨by rw [isRow_ext x bm 16 hl]; exact h1, by rw [rowAt_ext x bm hl]; exact h2⟩

theorem implMapOrder_g {f : Nat → Int} {b : Bool} (hb : mapB f = b) (HM : ∀ w, Calls Try.prog 49 #[.agg (mcells f)] w fun e w' => e = .returned (.bool b) ∧ Ex w w')
    (HO : b = true → ∀ (c : C4) (w : World), Ok c → Calls Try.prog 50 #[.agg (mcells f), .agg #[.int .i64 c.a, .int .i64 c.b, .int .i64 c.c, .int .i64 c.d]] w fun e w' => ∃ g cap, e = .returned (.slice (some ⟨g, 0, none⟩) (orbL f c) cap) ∧ Ex w w') (w : World) :
    Calls Try.prog 28 #[.agg (mcells f)] w fun e w' => e = .returned (.tuple #[.int .i64 (if b then (ordI f 81 : Int) else 0), .bool b]) ∧ Ex w w' := by
  have HM0 := Lib.hid (heap_alloc_new w (.cells (mcells f) 44))
  have HO' := Lib.hid HO
  clear HO
  cases b
  · rw [if_neg (by simp)]
    go_enter Try.func28, Try.ntmps28
    go_wp2_with (go_at_call 49; refine (HM _).mono ?_; rintro e w1 ⟨rfl, y, rfl⟩)
    go_ret2
    exact ⟨rfl, by repeat (first | with_reducible exact Ex.refl _ | with_reducible refine Ex.ext ?_ _ | with_reducible refine Ex.alloc ?_ _ | with_reducible refine Ex.drew ?_)⟩
  · rw [if_pos rfl]
    have Hb := Lib.hid hb
    clear hb
    go_enter Try.func28, Try.ntmps28
    go_wp2_with (go_at_call 49; refine (HM _).mono ?_; rintro e w1 ⟨rfl, hx1⟩)
    have hE1 : Ex w w1 := ((Ex.refl w).alloc _).trans hx1
    go_loopw [4, 12] (fun u v wr => ∃ k o : Nat, k ≤ 81 ∧ ordI f k = o ∧ v = .int .i64 k ∧ u = .int .i64 o ∧ Ex w wr ∧ wr.heap[w.heap.size]? = some (.cells (mcells f) 44 (0, 0))) (fun _ v _ => 81 - (intOf v).toNat)
    case atStart => exact ⟨0, 1, by omega, rfl, rfl, rfl, hE1, (hx1.below.block _ (by first | (simp; done) | (simp [ext_size]; done) | (simp [ext_size]; omega) | omega)).trans HM0.out⟩
    case round =>
      obtain ⟨k, o, hk, ho, rfl, rfl, hE, hMr⟩ := hrel
      have HMr := Lib.hid hMr
      have HE := Lib.hid hE
      have hlt0 := lt_of_block hMr
      clear hMr hE
      by_cases hlt : k < 81
      · have hoka := ok_at (show (0 : Int) ≤ (k : Int) by omega) (show (k : Int) ≤ 80 by omega)
        obtain ⟨_, hL1, hL2, _⟩ := orbL_ok Hb.out hoka
        obtain ⟨ho1, _, ho2, _⟩ := ordI_ok Hb.out k hk
        obtain ⟨_, _, hn2, _⟩ := ordI_ok Hb.out (k + 1) hlt
        have Hst := Lib.hid (show ordI f (k + 1) = ordI f k / Nat.gcd (ordI f k) (orbL f (at_ (k : Int))) * orbL f (at_ (k : Int)) from rfl)
        rw [ho] at ho1 ho2 Hst
        have HOz := Lib.hid (HO'.out (by first | trivial | rfl) (at_ (k : Int)))
        have HAt := Lib.hid (fun w => card_c (k : Int) (by omega) (by omega) w)
        obtain ⟨L, hL⟩ : ∃ L, orbL f (at_ (k : Int)) = L := ⟨_, rfl⟩
        rw [hL] at hL1 hL2 Hst HOz
        generalize at_ (k : Int) = z at *
        obtain ⟨o2, ho2'⟩ : ∃ o2, ordI f (k + 1) = o2 := ⟨_, rfl⟩
        rw [ho2'] at hn2 Hst
        have Ho2 := Lib.hid ho2'
        clear hL ho ho2'
        have hi1 := isRow_of (n := 16) HMr.out rfl
        have hi2 := rowAt_of HMr.out
        go_wp2
        (refine region_headH 5 (fun w' => isRow w' w.heap.size 16 = true ∧ rowAt w' w.heap.size = mcells f) (by kernel_rfl) (by kernel_rfl) (by first | (go_simp; done) | go_keep) (fun hHeld => ?_); simp only [List.size_toArray, List.length_cons, List.length_nil, Nat.zero_add, Nat.reduceAdd])
        (refine headH_take (i := 0) (v := ?_) (by kernel_rfl) (by omega) (by kernel_rfl) (by kernel_rfl) (fun _ _ _ h => h) (Or.inl ⟨by rfl, ?_⟩) (by assumption) ?_; rotate_left 1; (focus (intro w hSw; (try dsimp only at hSw); (try simp only [opOf_succ, opOf_zero]); go_simp <;> with_reducible rfl)); (try simp only [opOf_succ, opOf_zero, Act.put, List.setIfInBounds_toArray, List.set_cons_zero, List.set_cons_succ]))
        (refine headH_take (i := 1) (v := ?_) (by kernel_rfl) (by omega) (by kernel_rfl) (by kernel_rfl) (fun _ _ _ h => h) (Or.inl ⟨by rfl, ?_⟩) (by assumption) ?_; rotate_left 1; (focus (intro w hSw; (try dsimp only at hSw); (try simp only [opOf_succ, opOf_zero]); go_simp <;> with_reducible rfl)); (try simp only [opOf_succ, opOf_zero, Act.put, List.setIfInBounds_toArray, List.set_cons_zero, List.set_cons_succ]))
        (refine headH_one (i := 2) (by kernel_rfl) (by omega) (by simp only [List.length_cons, List.length_nil]; omega) (fun Kx hKx => ?_); (try simp (config := { proj := false }) only [opOf_succ, opOf_zero]); (go_simp; go_at_call 51; refine (HAt.out _).mono ?_; rintro e w2 ⟨rfl, hx2⟩; have hx2 := Ex.trans (by exact by repeat (first | exact Ex.refl _ | refine Ex.ext ?_ _ | refine Ex.alloc ?_ _ | refine Ex.drew ?_)) hx2; have hS2 := keep_R hx2 hi1 hi2; go_wp2_with fail); refine hKx.out _ _ hS2 (fun hHeld => ?_); clear hKx Kx; (try simp only [Act.put, List.setIfInBounds_toArray, List.set_cons_zero, List.set_cons_succ]))
        (refine headH_one (i := 3) (by kernel_rfl) (by omega) (by simp only [List.length_cons, List.length_nil]; omega) (fun Kx hKx => ?_); (try simp (config := { proj := false }) only [opOf_succ, opOf_zero]); (go_simp; go_at_call 50; refine (HOz.out _ hoka).mono ?_; rintro e w3 ⟨g3, c3, rfl, hx3⟩; have hx3 := hx2.trans (Ex.trans (by exact by repeat (first | exact Ex.refl _ | refine Ex.ext ?_ _ | refine Ex.alloc ?_ _ | refine Ex.drew ?_)) hx3); have hS3 := keep_R hx3 hi1 hi2; have hM3 := (hx3.below.block _ hlt0).trans HMr.out; have HM3 := Lib.hid hM3; clear hM3; go_wp2_with fail); refine hKx.out _ _ hS3 (fun hHeld => ?_); clear hKx Kx; (try simp only [Act.put, List.setIfInBounds_toArray, List.set_cons_zero, List.set_cons_succ]))
        (refine headH_take (i := 4) (v := ?_) (by kernel_rfl) (by omega) (by kernel_rfl) (by kernel_rfl) (fun _ _ _ h => h) (Or.inl ⟨by rfl, ?_⟩) (by assumption) ?_; rotate_left 1; (focus (intro w hSw; (try dsimp only at hSw); (try simp only [opOf_succ, opOf_zero]); go_simp <;> with_reducible rfl)); (try simp only [opOf_succ, opOf_zero, Act.put, List.setIfInBounds_toArray, List.set_cons_zero, List.set_cons_succ]))
        (refine headH_done (by kernel_rfl) ?_; simp only [List.drop_succ_cons, List.drop_zero])
        go_wp2
        clear hS2 hS3 hi1 hi2
        have hE3 : Ex w w3 := HE.out.trans ((Ex.refl wr).drew.trans hx3)
        have HE3 := Lib.hid hE3
        clear hE3 hx2 hx3
        go_loopw [7, 8] (fun u v wr => ∃ x y : Nat, u = .int .i64 x ∧ v = .int .i64 y ∧ 1 ≤ x ∧ x ≤ 18 ∧ y ≤ 18 ∧ Nat.gcd x y = Nat.gcd o L ∧ Ex w3 wr) (fun _ v _ => (intOf v).toNat)
        case atStart => exact ⟨o, L, rfl, rfl, ho1, ho2, hL2, rfl, Ex.refl _⟩
        case round =>
          obtain ⟨x, y, rfl, rfl, hx1', hx2', hy, hg, hEx⟩ := hrel
          have Hg := Lib.hid hg
          clear hg
          by_cases hy0 : y = 0
          · subst hy0
            have hgx : Nat.gcd o L = x := by rw [← Hg.out, Nat.gcd_zero_right]
            have Hst2 := Lib.hid (show o2 = o / x * L by rw [Hst.out, hgx])
            have Hval := Lib.hid (show wrap64 (wrap64 ((o : Int) / (x : Int)) * (L : Int)) = (o2 : Int) by
              have e1 : wrap64 ((o / x : Nat) : Int) = ((o / x : Nat) : Int) := IntWalk.wrap64_in _ (by have h := Nat.le_trans (Nat.div_le_self o x) ho2; generalize o / x = q at h ⊢; omega)
              rw [show (o : Int) / (x : Int) = ((o / x : Nat) : Int) from rfl, e1, ← Int.natCast_mul, ← Hst2.out]
              exact IntWalk.wrap64_in _ (by omega))
            go_wp2
            go_roundw
            case rel =>
              (try ((repeat apply Exists.intro); refine ⟨?_, rfl⟩))
              exact ⟨k + 1, o2, by omega, Ho2.out, by go_num, by rw [Hval.out], HE3.out.trans hEx, (hEx.below.block _ (lt_of_block HM3.out)).trans HM3.out⟩
            case measure => simp [intOf]; omega
          · have hy1 : ((y : Int) == 0) = false := beq_eq_false_iff_ne.2 (by omega)
            have hy2 : ¬ ((y : Int) = 0) := by omega
            have hmod : (x : Int).tmod (y : Int) = ((x % y : Nat) : Int) := rfl
            have hlt := Nat.mod_lt x (show 0 < y by omega)
            go_wp2
            go_region
            all_goals go_wp2
            all_goals go_roundw
            all_goals first
              | exact ⟨y, x % y, rfl, rfl, by omega, hy, by omega, by rw [Nat.gcd_comm, ← Nat.gcd_rec, Nat.gcd_comm]; exact Hg.out, hEx.drew⟩
              | ((try ((repeat apply Exists.intro); refine ⟨?_, rfl⟩)); exact ⟨y, x % y, rfl, rfl, by omega, hy, by omega, by rw [Nat.gcd_comm, ← Nat.gcd_rec, Nat.gcd_comm]; exact Hg.out, hEx.drew⟩)
              | (show ((x % y : Nat) : Int).toNat < ((y : Nat) : Int).toNat; omega)
              | skip
            all_goals trace_state
            all_goals sorry
      · have : k = 81 := by omega
        subst this
        have Ho := Lib.hid ho
        go_wp2
        go_ret2
        rw [Ho.out]
        exact ⟨rfl, HE.out⟩
end Go.Proofs.Ytkmnnnhnajnefaa
