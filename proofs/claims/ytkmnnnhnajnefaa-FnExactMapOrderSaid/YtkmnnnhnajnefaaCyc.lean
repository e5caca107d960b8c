/- The walks of CycleCounts. -/
import Derived.Test.YtkmnnnhnajnefaaOrbW
import Derived.Test.YtkmnnnhnajnefaaM19
import Derived.Test.YtkmnnnhnajnefaaHeld
namespace Go.Proofs.Ytkmnnnhnajnefaa
set_option linter.unusedSimpArgs false
set_option linter.unusedVariables false
set_option maxHeartbeats 1000000
set_option maxRecDepth 100000
open Go.RowKit

theorem row_cell {w : World} {b j : Nat} {G : Nat → Int} {T : TypeId} (h : w.heap[b]? = some (.cells (ncells G) T (0, 0))) (hj : j < 19) : w.cell? ⟨b, j, none⟩ = some (.int .i64 (G j)) := by
  simp only [World.cell?, h]
  exact ncells_get G j hj
theorem row_free {w : World} {b j : Nat} {A : Array Value} {T : TypeId} (h : w.heap[b]? = some (.cells A T (0, 0))) : w.frozen? ⟨b, j, none⟩ = false := by
  simp [World.frozen?, h]
theorem keeps_setj (w : World) (B j : Nat) (v : Value) : Keeps B w (w.setCell ⟨B, j, none⟩ v) :=
  ⟨rfl, rfl, rfl, by simp, fun k hk hg => heap_setCell_other w _ k v hg⟩
theorem keep_S {wr w' : World} {f : Nat → Int} {bm b L : Nat} {v : Value} (h : Ex wr w') (h1 : isRow wr bm 16 = true) (h2 : rowAt wr bm = mcells f) (h3 : wr.cell? ⟨b, L, none⟩ = some v) : isRow w' bm 16 = true ∧ rowAt w' bm = mcells f ∧ w'.cell? ⟨b, L, none⟩ = some v := by
  have hl : bm < wr.heap.size := by
    unfold isRow at h1
    split at h1
    · rename_i e; exact (Array.getElem?_eq_some_iff.1 e).1
    · simp at h1
  have hl2 := World.block_lt_of_cell? _ _ h3
  obtain ⟨x, rfl⟩ := h
  exact ⟨by rw [isRow_ext x bm 16 hl]; exact h1, by rw [rowAt_ext x bm hl]; exact h2, by rw [ext_cell x b L hl2]; exact h3⟩
theorem keeps_row (w : World) (B : Nat) (A : Array Value) : Keeps B w (w.setRow B A) :=
  ⟨rfl, rfl, rfl, by simp, fun k hk hg => by simp only [World.setRow]; rw [Array.getElem?_modify, if_neg (Ne.symm hg)]⟩

theorem specCycleCounts_g {f : Nat → Int} {b : Bool} (hb : mapB f = b) (HM : ∀ w, Calls Try.prog 45 #[.agg (mcells f)] w fun e w' => e = .returned (.bool b) ∧ Ex w w')
    (HO : b = true → ∀ (c : C4) (w : World), Ok c → Calls Try.prog 46 #[.agg (mcells f), .agg #[.int .i64 c.a, .int .i64 c.b, .int .i64 c.c, .int .i64 c.d]] w fun e w' => ∃ g cap, e = .returned (.slice (some ⟨g, 0, none⟩) (orbL f c) cap) ∧ Ex w w') (w : World) :
    Calls Try.prog 23 #[.agg (mcells f)] w fun e w' => e = .returned (.tuple #[.agg (ncells (cycR f)), .bool b]) ∧ Ex w w' := by
  have hM0 : ((((w.alloc (.cells (mcells f) 44)).alloc (.cells (ncells mzero) 41)).alloc (.cells (ncells mzero) 41))).heap[w.heap.size]? = some (.cells (mcells f) 44 (0, 0)) := by rw [heap_alloc_old (h := by simp; omega), heap_alloc_old (h := by simp)]; exact heap_alloc_new _ _
  have hR0 : ((((w.alloc (.cells (mcells f) 44)).alloc (.cells (ncells mzero) 41)).alloc (.cells (ncells mzero) 41))).heap[w.heap.size + 1]? = some (.cells (ncells mzero) 41 (0, 0)) := by rw [heap_alloc_old (h := by simp)]; have := heap_alloc_new (w.alloc (.cells (mcells f) 44)) (.cells (ncells mzero) 41); simpa using this
  have hN0 : ((((w.alloc (.cells (mcells f) 44)).alloc (.cells (ncells mzero) 41)).alloc (.cells (ncells mzero) 41))).heap[w.heap.size + 2]? = some (.cells (ncells mzero) 41 (0, 0)) := by have := heap_alloc_new ((w.alloc (.cells (mcells f) 44)).alloc (.cells (ncells mzero) 41)) (.cells (ncells mzero) 41); simpa using this
  have HM0 := Lib.hid hM0
  have HR0 := Lib.hid hR0
  have HN0 := Lib.hid hN0
  have HO' := Lib.hid HO
  clear hM0 hR0 hN0 HO
  cases b
  · have hR : cycR f = mzero := by simp [cycR, hb]
    rw [hR]
    clear hR hb
    go_enter Try.func23, Try.ntmps23
    go_wp2_with (go_at_call 45; refine (HM _).mono ?_; rintro e w1 ⟨rfl, y, rfl⟩)
    refine bodyPost_ret (v := .tuple #[.agg (ncells mzero), .bool false]) (by simp only [results, Try.results23]; go_simp) rfl ⟨rfl, by repeat (first | with_reducible exact Ex.refl _ | with_reducible refine Ex.ext ?_ _ | with_reducible refine Ex.alloc ?_ _ | with_reducible refine Ex.drew ?_)⟩
  · have hR : cycR f = cyc f 81 := by simp [cycR, hb]
    rw [hR]
    clear hR
    have Hb := Lib.hid hb
    clear hb
    go_enter Try.func23, Try.ntmps23
    go_wp2_with (go_at_call 45; refine (HM _).mono ?_; rintro e w1 ⟨rfl, hx1⟩)
    have hE1 : Ex w w1 := ((((Ex.refl w).alloc _).alloc _).alloc _).trans hx1
    go_loopw [5] (fun v wr => ∃ k : Nat, k ≤ 81 ∧ v = .int .i64 k ∧ Ex w wr ∧ wr.heap[w.heap.size]? = some (.cells (mcells f) 44 (0, 0)) ∧ wr.heap[w.heap.size + 1]? = some (.cells (ncells mzero) 41 (0, 0)) ∧ wr.heap[w.heap.size + 1 + 1]? = some (.cells (ncells (cyc f k)) 41 (0, 0))) (fun v _ => 81 - (intOf v).toNat)
    case atStart => exact ⟨0, by omega, rfl, hE1, (hx1.below.block _ (by first | (simp; done) | (simp [ext_size]; done) | (simp [ext_size]; omega) | omega)).trans HM0.out, (hx1.below.block _ (by first | (simp; done) | (simp [ext_size]; done) | (simp [ext_size]; omega) | omega)).trans HR0.out, (hx1.below.block _ (by first | (simp; done) | (simp [ext_size]; done) | (simp [ext_size]; omega) | omega)).trans HN0.out⟩
    case round =>
      obtain ⟨k, hk, rfl, hE, hMr, hRr, hNr⟩ := hrel
      have HMr := Lib.hid hMr
      have HRr := Lib.hid hRr
      have HNr := Lib.hid hNr
      have HE := Lib.hid hE
      have hlt0 := lt_of_block hMr
      have hlt1 := lt_of_block hRr
      have hlt2 := lt_of_block hNr
      clear hMr hRr hNr hE
      by_cases hlt : k < 81
      · have hoka := ok_at (show (0 : Int) ≤ (k : Int) by omega) (show (k : Int) ≤ 80 by omega)
        obtain ⟨_, hL1, hL2, _⟩ := orbL_ok Hb.out hoka
        obtain ⟨z, hz⟩ : ∃ z, at_ (k : Int) = z := ⟨_, rfl⟩
        rw [hz] at hoka hL1 hL2
        have Hcy := Lib.hid (show cyc f (k + 1) = upd (cyc f k) (orbL f z) (cyc f k (orbL f z) + 1) by rw [← hz]; rfl)
        have HOz := Lib.hid (HO'.out (by first | trivial | rfl) z)
        have HAt := Lib.hid (show ∀ w, Calls Try.prog 47 #[.int .i64 (k : Int)] w fun e w' => e = .returned (.agg #[.int .i64 z.a, .int .i64 z.b, .int .i64 z.c, .int .i64 z.d]) ∧ Ex w w' from fun w => by rw [← hz]; exact l2At_c _ (by omega) (by omega) w)
        clear hz
        have hbd := cyc_bd f k (orbL f z)
        obtain ⟨L, hL⟩ : ∃ L, orbL f z = L := ⟨_, rfl⟩
        rw [hL] at hL1 hL2 hbd Hcy HOz
        obtain ⟨x, hx⟩ : ∃ x, cyc f k L = x := ⟨_, rfl⟩
        have hL19 : (L : Int) < 19 := by omega
        have hi1 := isRow_of (n := 16) HMr.out rfl
        have hi2 := rowAt_of HMr.out
        have hi3 := row_cell HNr.out (j := L) (by omega)
        rw [hx] at hi3 hbd Hcy
        clear hx hL
        have hf3 := row_free HNr.out (j := L)
        go_wp2
        (refine region_headH 9 (fun w' => isRow w' w.heap.size 16 = true ∧ rowAt w' w.heap.size = mcells f ∧ w'.cell? ⟨w.heap.size + 1 + 1, L, none⟩ = some (.int .i64 x)) (by kernel_rfl) (by kernel_rfl) (by first | (go_simp; done) | go_keep) (fun hHeld => ?_); simp only [List.size_toArray, List.length_cons, List.length_nil, Nat.zero_add, Nat.reduceAdd])
        (refine headH_take (i := 0) (v := ?_) (by kernel_rfl) (by omega) (by kernel_rfl) (by kernel_rfl) (fun _ _ _ h => h) (Or.inl ⟨by rfl, ?_⟩) (by assumption) ?_; rotate_left 1; (focus (intro w hSw; (try dsimp only at hSw); (try simp only [opOf_succ, opOf_zero]); go_simp <;> with_reducible rfl)); (try simp only [opOf_succ, opOf_zero, Act.put, List.setIfInBounds_toArray, List.set_cons_zero, List.set_cons_succ]))
        (refine headH_take (i := 1) (v := ?_) (by kernel_rfl) (by omega) (by kernel_rfl) (by kernel_rfl) (fun _ _ _ h => h) (Or.inl ⟨by rfl, ?_⟩) (by assumption) ?_; rotate_left 1; (focus (intro w hSw; (try dsimp only at hSw); (try simp only [opOf_succ, opOf_zero]); go_simp <;> with_reducible rfl)); (try simp only [opOf_succ, opOf_zero, Act.put, List.setIfInBounds_toArray, List.set_cons_zero, List.set_cons_succ]))
        (refine headH_one (i := 2) (by kernel_rfl) (by omega) (by simp only [List.length_cons, List.length_nil]; omega) (fun Kx hKx => ?_); (try simp (config := { proj := false }) only [opOf_succ, opOf_zero]); (go_simp; go_at_call 47; refine (HAt.out _).mono ?_; rintro e w2 ⟨rfl, hx2⟩; have hx2 := Ex.trans (by exact by repeat (first | exact Ex.refl _ | refine Ex.ext ?_ _ | refine Ex.alloc ?_ _ | refine Ex.drew ?_)) hx2; have hS2 := keep_S hx2 hi1 hi2 hi3; go_wp2_with fail); refine hKx.out _ _ hS2 (fun hHeld => ?_); clear hKx Kx; (try simp only [Act.put, List.setIfInBounds_toArray, List.set_cons_zero, List.set_cons_succ]))
        (refine headH_one (i := 3) (by kernel_rfl) (by omega) (by simp only [List.length_cons, List.length_nil]; omega) (fun Kx hKx => ?_); (try simp (config := { proj := false }) only [opOf_succ, opOf_zero]); (go_simp; go_at_call 46; refine (HOz.out _ hoka).mono ?_; rintro e w3 ⟨g3, c3, rfl, hx3⟩; have hx3 := hx2.trans (Ex.trans (by exact by repeat (first | exact Ex.refl _ | refine Ex.ext ?_ _ | refine Ex.alloc ?_ _ | refine Ex.drew ?_)) hx3); have hS3 := keep_S hx3 hi1 hi2 hi3; have hM3 := (hx3.below.block _ hlt0).trans HMr.out; have hR3 := (hx3.below.block _ hlt1).trans HRr.out; have hN3 := (hx3.below.block _ hlt2).trans HNr.out; have hf4 := row_free hN3 (j := L); have HM3 := Lib.hid hM3; have HR3 := Lib.hid hR3; have HN3 := Lib.hid hN3; clear hM3 hR3 hN3; go_wp2_with fail); refine hKx.out _ _ hS3 (fun hHeld => ?_); clear hKx Kx; (try simp only [Act.put, List.setIfInBounds_toArray, List.set_cons_zero, List.set_cons_succ]))
        (refine headH_take (i := 4) (v := ?_) (by kernel_rfl) (by omega) (by kernel_rfl) (by kernel_rfl) (fun _ _ _ h => h) (Or.inl ⟨by rfl, ?_⟩) (by assumption) ?_; rotate_left 1; (focus (intro w hSw; (try dsimp only at hSw); (try simp only [opOf_succ, opOf_zero]); go_simp <;> with_reducible rfl)); (try simp only [opOf_succ, opOf_zero, Act.put, List.setIfInBounds_toArray, List.set_cons_zero, List.set_cons_succ]))
        (refine headH_take (i := 5) (v := ?_) (by kernel_rfl) (by omega) (by kernel_rfl) (by kernel_rfl) (fun _ _ _ h => h) (Or.inl ⟨by rfl, ?_⟩) (by assumption) ?_; rotate_left 1; (focus (intro w hSw; (try dsimp only at hSw); (try simp only [opOf_succ, opOf_zero]); go_simp <;> with_reducible rfl)); (try simp only [opOf_succ, opOf_zero, Act.put, List.setIfInBounds_toArray, List.set_cons_zero, List.set_cons_succ]))
        (refine headH_take (i := 6) (v := ?_) (by kernel_rfl) (by omega) (by kernel_rfl) (by kernel_rfl) (fun _ _ _ h => h) (Or.inl ⟨by rfl, ?_⟩) (by assumption) ?_; rotate_left 1; (focus (intro w hSw; (try dsimp only at hSw); (try simp only [opOf_succ, opOf_zero]); go_simp <;> with_reducible rfl)); (try simp only [opOf_succ, opOf_zero, Act.put, List.setIfInBounds_toArray, List.set_cons_zero, List.set_cons_succ]))
        (refine headH_take (i := 7) (v := ?_) (by kernel_rfl) (by omega) (by kernel_rfl) (by kernel_rfl) (fun _ _ _ h => h) (Or.inl ⟨by rfl, ?_⟩) (by assumption) ?_; rotate_left 1; (focus (intro w hSw; (try dsimp only at hSw); (try simp only [opOf_succ, opOf_zero]); go_simp <;> with_reducible rfl)); (try simp only [opOf_succ, opOf_zero, Act.put, List.setIfInBounds_toArray, List.set_cons_zero, List.set_cons_succ]))
        (refine headH_take (i := 8) (v := ?_) (by kernel_rfl) (by omega) (by kernel_rfl) (by kernel_rfl) (fun _ _ _ h => h) (Or.inl ⟨by rfl, ?_⟩) (by assumption) ?_; rotate_left 1; (focus (intro w hSw; (try dsimp only at hSw); (try simp only [opOf_succ, opOf_zero]); go_simp <;> with_reducible rfl)); (try simp only [opOf_succ, opOf_zero, Act.put, List.setIfInBounds_toArray, List.set_cons_zero, List.set_cons_succ]))
        (refine headH_done (by kernel_rfl) ?_; simp only [List.drop_succ_cons, List.drop_zero])
        go_wp2
        go_roundw
        case rel =>
          (try ((repeat apply Exists.intro); refine ⟨?_, rfl⟩))
          refine ⟨k + 1, by omega, by go_num, Keeps.ex (HE.out.trans ((Ex.refl wr).drew.trans hx3)) (keeps_setj _ _ _ _) (by omega), ?_, ?_, ?_⟩
          · rw [heap_setCell_other _ _ _ _ (show w.heap.size ≠ w.heap.size + 1 + 1 by omega)]; exact HM3.out
          · rw [heap_setCell_other _ _ _ _ (by simp)]; exact HR3.out
          · rw [heap_setCell_same _ _ _ _ _ _ HN3.out, ncells_set _ _ _ (by omega), Hcy.out]
        case measure => simp [intOf]; omega
      · have : k = 81 := by omega
        subst this
        have hi1 := isRow_of (n := 19) HNr.out rfl
        have hi2 := rowAt_of HNr.out
        have hi3 := isRow_of (n := 19) HRr.out rfl
        have hset := setRow_heap wr (w.heap.size + 1) _ (ncells (cyc f 81)) _ _ HRr.out
        have hi4 : isRow (wr.setRow (w.heap.size + 1) (ncells (cyc f 81))) (w.heap.size + 1) 19 = true := isRow_of hset rfl
        have hi5 := rowAt_of hset
        clear hset
        go_wp2
        refine bodyPost_ret (v := .tuple #[.agg (ncells (cyc f 81)), .bool true]) (by simp only [results, Try.results23]; go_simp) rfl ⟨rfl, ?_⟩
        exact Keeps.ex HE.out (keeps_row _ _ _) (by omega)

theorem implCycleCounts_g {f : Nat → Int} {b : Bool} (hb : mapB f = b) (HM : ∀ w, Calls Try.prog 49 #[.agg (mcells f)] w fun e w' => e = .returned (.bool b) ∧ Ex w w')
    (HO : b = true → ∀ (c : C4) (w : World), Ok c → Calls Try.prog 50 #[.agg (mcells f), .agg #[.int .i64 c.a, .int .i64 c.b, .int .i64 c.c, .int .i64 c.d]] w fun e w' => ∃ g cap, e = .returned (.slice (some ⟨g, 0, none⟩) (orbL f c) cap) ∧ Ex w w') (w : World) :
    Calls Try.prog 25 #[.agg (mcells f)] w fun e w' => e = .returned (.tuple #[.agg (ncells (cycR f)), .bool b]) ∧ Ex w w' := by
  have hM0 : ((((w.alloc (.cells (mcells f) 44)).alloc (.cells (ncells mzero) 41)).alloc (.cells (ncells mzero) 41))).heap[w.heap.size]? = some (.cells (mcells f) 44 (0, 0)) := by rw [heap_alloc_old (h := by simp; omega), heap_alloc_old (h := by simp)]; exact heap_alloc_new _ _
  have hR0 : ((((w.alloc (.cells (mcells f) 44)).alloc (.cells (ncells mzero) 41)).alloc (.cells (ncells mzero) 41))).heap[w.heap.size + 1]? = some (.cells (ncells mzero) 41 (0, 0)) := by rw [heap_alloc_old (h := by simp)]; have := heap_alloc_new (w.alloc (.cells (mcells f) 44)) (.cells (ncells mzero) 41); simpa using this
  have hN0 : ((((w.alloc (.cells (mcells f) 44)).alloc (.cells (ncells mzero) 41)).alloc (.cells (ncells mzero) 41))).heap[w.heap.size + 2]? = some (.cells (ncells mzero) 41 (0, 0)) := by have := heap_alloc_new ((w.alloc (.cells (mcells f) 44)).alloc (.cells (ncells mzero) 41)) (.cells (ncells mzero) 41); simpa using this
  have HM0 := Lib.hid hM0
  have HR0 := Lib.hid hR0
  have HN0 := Lib.hid hN0
  have HO' := Lib.hid HO
  clear hM0 hR0 hN0 HO
  cases b
  · have hR : cycR f = mzero := by simp [cycR, hb]
    rw [hR]
    clear hR hb
    go_enter Try.func25, Try.ntmps25
    go_wp2_with (go_at_call 49; refine (HM _).mono ?_; rintro e w1 ⟨rfl, y, rfl⟩)
    refine bodyPost_ret (v := .tuple #[.agg (ncells mzero), .bool false]) (by simp only [results, Try.results25]; go_simp) rfl ⟨rfl, by repeat (first | with_reducible exact Ex.refl _ | with_reducible refine Ex.ext ?_ _ | with_reducible refine Ex.alloc ?_ _ | with_reducible refine Ex.drew ?_)⟩
  · have hR : cycR f = cyc f 81 := by simp [cycR, hb]
    rw [hR]
    clear hR
    have Hb := Lib.hid hb
    clear hb
    go_enter Try.func25, Try.ntmps25
    go_wp2_with (go_at_call 49; refine (HM _).mono ?_; rintro e w1 ⟨rfl, hx1⟩)
    have hE1 : Ex w w1 := ((((Ex.refl w).alloc _).alloc _).alloc _).trans hx1
    go_loopw [11] (fun v wr => ∃ k : Nat, k ≤ 81 ∧ v = .int .i64 k ∧ Ex w wr ∧ wr.heap[w.heap.size]? = some (.cells (mcells f) 44 (0, 0)) ∧ wr.heap[w.heap.size + 1]? = some (.cells (ncells mzero) 41 (0, 0)) ∧ wr.heap[w.heap.size + 1 + 1]? = some (.cells (ncells (cyc f k)) 41 (0, 0))) (fun v _ => 81 - (intOf v).toNat)
    case atStart => exact ⟨0, by omega, rfl, hE1, (hx1.below.block _ (by first | (simp; done) | (simp [ext_size]; done) | (simp [ext_size]; omega) | omega)).trans HM0.out, (hx1.below.block _ (by first | (simp; done) | (simp [ext_size]; done) | (simp [ext_size]; omega) | omega)).trans HR0.out, (hx1.below.block _ (by first | (simp; done) | (simp [ext_size]; done) | (simp [ext_size]; omega) | omega)).trans HN0.out⟩
    case round =>
      obtain ⟨k, hk, rfl, hE, hMr, hRr, hNr⟩ := hrel
      have HMr := Lib.hid hMr
      have HRr := Lib.hid hRr
      have HNr := Lib.hid hNr
      have HE := Lib.hid hE
      have hlt0 := lt_of_block hMr
      have hlt1 := lt_of_block hRr
      have hlt2 := lt_of_block hNr
      clear hMr hRr hNr hE
      by_cases hlt : k < 81
      · have hoka := ok_at (show (0 : Int) ≤ (k : Int) by omega) (show (k : Int) ≤ 80 by omega)
        obtain ⟨_, hL1, hL2, _⟩ := orbL_ok Hb.out hoka
        obtain ⟨z, hz⟩ : ∃ z, at_ (k : Int) = z := ⟨_, rfl⟩
        rw [hz] at hoka hL1 hL2
        have Hcy := Lib.hid (show cyc f (k + 1) = upd (cyc f k) (orbL f z) (cyc f k (orbL f z) + 1) by rw [← hz]; rfl)
        have HOz := Lib.hid (HO'.out (by first | trivial | rfl) z)
        have HAt := Lib.hid (show ∀ w, Calls Try.prog 51 #[.int .i64 (k : Int)] w fun e w' => e = .returned (.agg #[.int .i64 z.a, .int .i64 z.b, .int .i64 z.c, .int .i64 z.d]) ∧ Ex w w' from fun w => by rw [← hz]; exact card_c _ (by omega) (by omega) w)
        clear hz
        have hbd := cyc_bd f k (orbL f z)
        obtain ⟨L, hL⟩ : ∃ L, orbL f z = L := ⟨_, rfl⟩
        rw [hL] at hL1 hL2 hbd Hcy HOz
        obtain ⟨x, hx⟩ : ∃ x, cyc f k L = x := ⟨_, rfl⟩
        have hL19 : (L : Int) < 19 := by omega
        have hi1 := isRow_of (n := 16) HMr.out rfl
        have hi2 := rowAt_of HMr.out
        have hi3 := row_cell HNr.out (j := L) (by omega)
        rw [hx] at hi3 hbd Hcy
        clear hx hL
        have hf3 := row_free HNr.out (j := L)
        go_wp2
        (refine region_headH 9 (fun w' => isRow w' w.heap.size 16 = true ∧ rowAt w' w.heap.size = mcells f ∧ w'.cell? ⟨w.heap.size + 1 + 1, L, none⟩ = some (.int .i64 x)) (by kernel_rfl) (by kernel_rfl) (by first | (go_simp; done) | go_keep) (fun hHeld => ?_); simp only [List.size_toArray, List.length_cons, List.length_nil, Nat.zero_add, Nat.reduceAdd])
        (refine headH_take (i := 0) (v := ?_) (by kernel_rfl) (by omega) (by kernel_rfl) (by kernel_rfl) (fun _ _ _ h => h) (Or.inl ⟨by rfl, ?_⟩) (by assumption) ?_; rotate_left 1; (focus (intro w hSw; (try dsimp only at hSw); (try simp only [opOf_succ, opOf_zero]); go_simp <;> with_reducible rfl)); (try simp only [opOf_succ, opOf_zero, Act.put, List.setIfInBounds_toArray, List.set_cons_zero, List.set_cons_succ]))
        (refine headH_take (i := 1) (v := ?_) (by kernel_rfl) (by omega) (by kernel_rfl) (by kernel_rfl) (fun _ _ _ h => h) (Or.inl ⟨by rfl, ?_⟩) (by assumption) ?_; rotate_left 1; (focus (intro w hSw; (try dsimp only at hSw); (try simp only [opOf_succ, opOf_zero]); go_simp <;> with_reducible rfl)); (try simp only [opOf_succ, opOf_zero, Act.put, List.setIfInBounds_toArray, List.set_cons_zero, List.set_cons_succ]))
        (refine headH_one (i := 2) (by kernel_rfl) (by omega) (by simp only [List.length_cons, List.length_nil]; omega) (fun Kx hKx => ?_); (try simp (config := { proj := false }) only [opOf_succ, opOf_zero]); (go_simp; go_at_call 51; refine (HAt.out _).mono ?_; rintro e w2 ⟨rfl, hx2⟩; have hx2 := Ex.trans (by exact by repeat (first | exact Ex.refl _ | refine Ex.ext ?_ _ | refine Ex.alloc ?_ _ | refine Ex.drew ?_)) hx2; have hS2 := keep_S hx2 hi1 hi2 hi3; go_wp2_with fail); refine hKx.out _ _ hS2 (fun hHeld => ?_); clear hKx Kx; (try simp only [Act.put, List.setIfInBounds_toArray, List.set_cons_zero, List.set_cons_succ]))
        (refine headH_one (i := 3) (by kernel_rfl) (by omega) (by simp only [List.length_cons, List.length_nil]; omega) (fun Kx hKx => ?_); (try simp (config := { proj := false }) only [opOf_succ, opOf_zero]); (go_simp; go_at_call 50; refine (HOz.out _ hoka).mono ?_; rintro e w3 ⟨g3, c3, rfl, hx3⟩; have hx3 := hx2.trans (Ex.trans (by exact by repeat (first | exact Ex.refl _ | refine Ex.ext ?_ _ | refine Ex.alloc ?_ _ | refine Ex.drew ?_)) hx3); have hS3 := keep_S hx3 hi1 hi2 hi3; have hM3 := (hx3.below.block _ hlt0).trans HMr.out; have hR3 := (hx3.below.block _ hlt1).trans HRr.out; have hN3 := (hx3.below.block _ hlt2).trans HNr.out; have hf4 := row_free hN3 (j := L); have HM3 := Lib.hid hM3; have HR3 := Lib.hid hR3; have HN3 := Lib.hid hN3; clear hM3 hR3 hN3; go_wp2_with fail); refine hKx.out _ _ hS3 (fun hHeld => ?_); clear hKx Kx; (try simp only [Act.put, List.setIfInBounds_toArray, List.set_cons_zero, List.set_cons_succ]))
        (refine headH_take (i := 4) (v := ?_) (by kernel_rfl) (by omega) (by kernel_rfl) (by kernel_rfl) (fun _ _ _ h => h) (Or.inl ⟨by rfl, ?_⟩) (by assumption) ?_; rotate_left 1; (focus (intro w hSw; (try dsimp only at hSw); (try simp only [opOf_succ, opOf_zero]); go_simp <;> with_reducible rfl)); (try simp only [opOf_succ, opOf_zero, Act.put, List.setIfInBounds_toArray, List.set_cons_zero, List.set_cons_succ]))
        (refine headH_take (i := 5) (v := ?_) (by kernel_rfl) (by omega) (by kernel_rfl) (by kernel_rfl) (fun _ _ _ h => h) (Or.inl ⟨by rfl, ?_⟩) (by assumption) ?_; rotate_left 1; (focus (intro w hSw; (try dsimp only at hSw); (try simp only [opOf_succ, opOf_zero]); go_simp <;> with_reducible rfl)); (try simp only [opOf_succ, opOf_zero, Act.put, List.setIfInBounds_toArray, List.set_cons_zero, List.set_cons_succ]))
        (refine headH_take (i := 6) (v := ?_) (by kernel_rfl) (by omega) (by kernel_rfl) (by kernel_rfl) (fun _ _ _ h => h) (Or.inl ⟨by rfl, ?_⟩) (by assumption) ?_; rotate_left 1; (focus (intro w hSw; (try dsimp only at hSw); (try simp only [opOf_succ, opOf_zero]); go_simp <;> with_reducible rfl)); (try simp only [opOf_succ, opOf_zero, Act.put, List.setIfInBounds_toArray, List.set_cons_zero, List.set_cons_succ]))
        (refine headH_take (i := 7) (v := ?_) (by kernel_rfl) (by omega) (by kernel_rfl) (by kernel_rfl) (fun _ _ _ h => h) (Or.inl ⟨by rfl, ?_⟩) (by assumption) ?_; rotate_left 1; (focus (intro w hSw; (try dsimp only at hSw); (try simp only [opOf_succ, opOf_zero]); go_simp <;> with_reducible rfl)); (try simp only [opOf_succ, opOf_zero, Act.put, List.setIfInBounds_toArray, List.set_cons_zero, List.set_cons_succ]))
        (refine headH_take (i := 8) (v := ?_) (by kernel_rfl) (by omega) (by kernel_rfl) (by kernel_rfl) (fun _ _ _ h => h) (Or.inl ⟨by rfl, ?_⟩) (by assumption) ?_; rotate_left 1; (focus (intro w hSw; (try dsimp only at hSw); (try simp only [opOf_succ, opOf_zero]); go_simp <;> with_reducible rfl)); (try simp only [opOf_succ, opOf_zero, Act.put, List.setIfInBounds_toArray, List.set_cons_zero, List.set_cons_succ]))
        (refine headH_done (by kernel_rfl) ?_; simp only [List.drop_succ_cons, List.drop_zero])
        go_wp2
        go_roundw
        case rel =>
          (try ((repeat apply Exists.intro); refine ⟨?_, rfl⟩))
          refine ⟨k + 1, by omega, by go_num, Keeps.ex (HE.out.trans ((Ex.refl wr).drew.trans hx3)) (keeps_setj _ _ _ _) (by omega), ?_, ?_, ?_⟩
          · rw [heap_setCell_other _ _ _ _ (show w.heap.size ≠ w.heap.size + 1 + 1 by omega)]; exact HM3.out
          · rw [heap_setCell_other _ _ _ _ (by simp)]; exact HR3.out
          · rw [heap_setCell_same _ _ _ _ _ _ HN3.out, ncells_set _ _ _ (by omega), Hcy.out]
        case measure => simp [intOf]; omega
      · have : k = 81 := by omega
        subst this
        have hi1 := isRow_of (n := 19) HNr.out rfl
        have hi2 := rowAt_of HNr.out
        have hi3 := isRow_of (n := 19) HRr.out rfl
        have hset := setRow_heap wr (w.heap.size + 1) _ (ncells (cyc f 81)) _ _ HRr.out
        have hi4 : isRow (wr.setRow (w.heap.size + 1) (ncells (cyc f 81))) (w.heap.size + 1) 19 = true := isRow_of hset rfl
        have hi5 := rowAt_of hset
        clear hset
        go_wp2
        refine bodyPost_ret (v := .tuple #[.agg (ncells (cyc f 81)), .bool true]) (by simp only [results, Try.results25]; go_simp) rfl ⟨rfl, ?_⟩
        exact Keeps.ex HE.out (keeps_row _ _ _) (by omega)
end Go.Proofs.Ytkmnnnhnajnefaa
