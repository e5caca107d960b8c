/- The walk of the reference's MapOrder. -/
import Derived.Test.YtkmnnnhnajnefaaOrdW
import Derived.Test.YtkmnnnhnajnefaaBehP
import Derived.Test.YtkmnnnhnajnefaaMEq
namespace Go.Proofs.Ytkmnnnhnajnefaa
set_option linter.unusedSimpArgs false
set_option linter.unusedVariables false
set_option maxHeartbeats 1000000
set_option maxRecDepth 100000
open Go.RowKit

@[go_sem] theorem same_fold : (#[.int .i64 0, .int .i64 1, .int .i64 2, .int .i64 3, .int .i64 0, .int .i64 1, .int .i64 2, .int .i64 0, .int .i64 1, .int .i64 2, .int .i64 0, .int .i64 1, .int .i64 2, .int .i64 0, .int .i64 1, .int .i64 2] : Array Value) = mcells sameF := by unfold mcells; rfl
@[go_sem] theorem same_build : Array.foldl (fun (cs : Array Value) (x : Value × Nat) => cs.setIfInBounds (4 + x.snd) x.fst) (mcells (upd (upd (upd (upd mzero 0 0) 1 1) 2 2) 3 3)) (vcells (upd (upd (upd (upd (upd (upd (upd (upd (upd (upd (upd (upd mzero 0 0) 1 1) 2 2) 3 0) 4 1) 5 2) 6 0) 7 1) 8 2) 9 0) 10 1) 11 2)).zipIdx 0 12 = mcells sameF := by unfold mcells vcells; rfl

theorem specMapOrder_g {f : Nat → Int} {b : Bool} (hb : mapB f = b) (HM : ∀ w, Calls Try.prog 45 #[.agg (mcells f)] w fun e w' => e = .returned (.bool b) ∧ Ex w w')
    (HB : b = true → ∀ (k : Nat) (w : World), Calls Try.prog 52 #[.agg (mcells (nowM f k)), .agg (mcells f)] w fun e w' => e = .returned (.agg (mcells (nowM f (k + 1)))) ∧ Ex w w') (w : World) :
    Calls Try.prog 27 #[.agg (mcells f)] w fun e w' => e = .returned (.tuple #[.int .i64 (if b then (ordM f : Int) else 0), .bool b]) ∧ Ex w w' := by
  have HM0 := Lib.hid (heap_alloc_new w (.cells (mcells f) 44))
  have HB' := Lib.hid HB
  clear HB
  cases b
  · rw [if_neg (by simp)]
    go_enter Try.func27, Try.ntmps27
    go_wp2_with (go_at_call 45; refine (HM _).mono ?_; rintro e w1 ⟨rfl, y, rfl⟩)
    go_ret2
    exact ⟨rfl, by repeat (first | with_reducible exact Ex.refl _ | with_reducible refine Ex.ext ?_ _ | with_reducible refine Ex.alloc ?_ _ | with_reducible refine Ex.drew ?_)⟩
  · rw [if_pos rfl]
    have Hb := Lib.hid hb
    obtain ⟨hm1, hm2, hm3, hm4⟩ := ordM_ok hb
    have Hm1 := Lib.hid hm1
    have Hm4 := Lib.hid hm4
    obtain ⟨N, hN⟩ : ∃ N, ordM f = N := ⟨_, rfl⟩
    rw [hN] at hm2 hm3 Hm1 Hm4 ⊢
    clear hb hm1 hm4 hN
    go_enter Try.func27, Try.ntmps27
    go_wp2_with (go_at_call 45; refine (HM _).mono ?_; rintro e w1 ⟨rfl, hx1⟩; have hM1 := (hx1.below.block _ (by first | (simp; done) | (simp [ext_size]; done) | (simp [ext_size]; omega) | omega)).trans HM0.out; have hlt1 := lt_of_block hM1; have hr1 : isRow w1 w.heap.size 16 = true := isRow_of hM1 rfl; have hr2 := rowAt_of hM1)
    have hE1 : Ex w w1 := ((Ex.refl w).alloc _).trans hx1
    go_loopw [5, 6] (fun u v wr => ∃ k xb : Nat, k + 1 ≤ N ∧ u = .int .i64 ((k : Int) + 1) ∧ v = .pointer (some ⟨xb, 0, none⟩) ∧ Ex w wr ∧ w.heap.size ≤ xb ∧ wr.heap[w.heap.size]? = some (.cells (mcells f) 44 (0, 0)) ∧ wr.heap[w1.heap.size]? = some (.cells (mcells sameF) 44 (0, 0)) ∧ wr.heap[xb]? = some (.cells (mcells (nowM f k)) 44 (0, 0))) (fun u _ _ => 19 - (intOf u).toNat)
    case atStart =>
      refine ⟨0, w1.heap.size + 1, by omega, rfl, rfl, (hE1.alloc _).alloc _, by omega, ?_, ?_, ?_⟩
      · rw [heap_alloc_old (h := by simp; omega), heap_alloc_old (h := hlt1)]; exact hM1
      · rw [heap_alloc_old (h := by simp)]; exact heap_alloc_new _ _
      · have := heap_alloc_new (w1.alloc (.cells (mcells sameF) 44)) (.cells (mcells f) 44); simpa [nowM] using this
    case round =>
      obtain ⟨k, xb, hk, rfl, rfl, hE, hxb, hMr, hSr, hNr⟩ := hrel
      have HMr := Lib.hid hMr
      have HSr := Lib.hid hSr
      have HE := Lib.hid hE
      have hlt0 := lt_of_block hMr
      have hlt2 := lt_of_block hSr
      have hlt3 := lt_of_block hNr
      have hi1 := isRow_of (n := 16) HMr.out rfl
      have hi2 := rowAt_of HMr.out
      have hi3 := isRow_of (n := 16) HSr.out rfl
      have hi4 := rowAt_of HSr.out
      have hi5 := isRow_of (n := 16) hNr rfl
      have hi6 := rowAt_of hNr
      have HBk := Lib.hid (HB'.out (by first | trivial | rfl) k)
      have Hsm := Lib.hid (nowM_same (MapN.of Hb.out) k)
      obtain ⟨g, hg⟩ : ∃ g, nowM f k = g := ⟨_, rfl⟩
      rw [hg] at hi6 HBk Hsm
      clear hMr hSr hE hNr hg hr1 hr2 hM1
      have key := eq16_iff g sameF
      rw [Hsm.out] at key
      cases h4 : eq4 g sameF
      case' false => have hno : k + 1 ≠ N := fun e => by have := key.2 (e ▸ Hm1.out); rw [h4] at this; exact absurd this.1 (by simp)
      case' true => cases h12 : eq12 g sameF
      case' true.false => have hno : k + 1 ≠ N := fun e => by have := key.2 (e ▸ Hm1.out); rw [h12] at this; exact absurd this.2 (by simp)
      case true.true =>
        have hN : N = k + 1 := Nat.le_antisymm (Hm4.out (k + 1) (by omega) (key.1 ⟨h4, h12⟩)) hk
        subst hN
        clear key
        go_wp2
        go_ret2
        exact ⟨by go_num, HE.out⟩
      all_goals
        clear key
        go_wp2_with (go_at_call 52; refine (HBk.out _).mono ?_; rintro e w2 ⟨rfl, y, rfl⟩)
        go_roundw
        case rel =>
          (try ((repeat apply Exists.intro); refine ⟨?_, rfl⟩))
          refine ⟨k + 1, wr.heap.size, by omega, by go_num, rfl, (HE.out.alloc _).ext _, by omega, ?_, ?_, ?_⟩
          · rw [ext_heap (h := by simp; omega), heap_alloc_old (h := hlt0)]; exact HMr.out
          · rw [ext_heap (h := by simp; omega), heap_alloc_old (h := hlt2)]; exact HSr.out
          · rw [ext_heap (h := by simp)]; exact heap_alloc_new wr _
        case measure => simp [intOf]; omega
end Go.Proofs.Ytkmnnnhnajnefaa
