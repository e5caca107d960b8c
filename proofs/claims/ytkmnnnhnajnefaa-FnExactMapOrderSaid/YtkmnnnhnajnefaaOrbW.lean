/- The walks of l5Orbit and orbit. -/
import Derived.Test.YtkmnnnhnajnefaaOrbP
namespace Go.Proofs.Ytkmnnnhnajnefaa
set_option linter.unusedSimpArgs false
set_option linter.unusedVariables false
set_option maxHeartbeats 1000000
set_option maxRecDepth 100000
open Go.RowKit

def lenSl : Value → Nat
  | .slice _ n _ => n
  | _ => 0
theorem Box4.of {w : World} {b : Nat} {x y z t : Int} {T : TypeId} (h : w.heap[b]? = some (.cells #[.int .i64 x, .int .i64 y, .int .i64 z, .int .i64 t] T (0, 0))) : Box4 w b x y z t :=
  ⟨lt_of_block h, by simp [World.cell?, h], by simp [World.cell?, h], by simp [World.cell?, h], by simp [World.cell?, h]⟩
theorem isRow_of {w : World} {b n : Nat} {A : Array Value} {T : TypeId} (h : w.heap[b]? = some (.cells A T (0, 0))) (hn : A.size = n) : isRow w b n = true := by
  unfold isRow; rw [h]; simp [hn]
theorem rowAt_of {w : World} {b : Nat} {A : Array Value} {T : TypeId} (h : w.heap[b]? = some (.cells A T (0, 0))) : rowAt w b = A := by
  unfold rowAt; rw [h]
theorem RowV.lay1' {W : World} {g lo : Nat} {x : Int} (hg : g = W.heap.size) (hlo : lo ≤ g) : RowV 3 1 lo (W.alloc (.cells #[.int .i64 x] 3)) g 1 1 (intVals [x]) := by
  subst hg
  exact ⟨rfl, Or.inr ⟨W.heap.size, 1, _, rfl, hlo, heap_alloc_new W _, Nat.le_refl _, by unfold maxLen; omega, rfl, rfl⟩⟩

theorem l5Orbit_g {f : Nat → Int} {c : C4} (hm : mapB f = true) (hc : Ok c) (HC : ∀ (z : C4) (w : World), Ok z → Calls Try.prog 70 #[.agg (mcells f), .agg #[.int .i64 z.a, .int .i64 z.b, .int .i64 z.c, .int .i64 z.d]] w fun e w' => e = .returned (.agg #[.int .i64 (img f z).a, .int .i64 (img f z).b, .int .i64 (img f z).c, .int .i64 (img f z).d]) ∧ Ex w w') (w : World) :
    Calls Try.prog 46 #[.agg (mcells f), .agg #[.int .i64 c.a, .int .i64 c.b, .int .i64 c.c, .int .i64 c.d]] w fun e w' => ∃ g cap, e = .returned (.slice (some ⟨g, 0, none⟩) (orbL f c) cap) ∧ Ex w w' := by
  obtain ⟨ho1, ho2, ho3, ho4⟩ := orbL_ok hm hc
  have Ho1 := Lib.hid ho1
  have Ho4 := Lib.hid ho4
  have Hm := Lib.hid hm
  have HC' := Lib.hid (HC (img f c))
  have Hok := Lib.hid (fun k => itr_ok hm hc k)
  have hci : Ok (img f c) := itr_ok hm hc 1
  clear ho1 ho4 hm
  obtain ⟨L, hL⟩ : ∃ L, L = orbL f c := ⟨_, rfl⟩
  rw [← hL] at ho2 ho3 Ho1 Ho4 ⊢
  have HI1 := Lib.hid (show itr (img f) 1 c = img f c from rfl)
  have hM0 : ((w.alloc (.cells (mcells f) 44)).alloc (.cells #[.int .i64 c.a, .int .i64 c.b, .int .i64 c.c, .int .i64 c.d] 36)).heap[w.heap.size]? = some (.cells (mcells f) 44 (0, 0)) := by rw [heap_alloc_old (h := by simp)]; exact heap_alloc_new _ _
  have hC0 : ((w.alloc (.cells (mcells f) 44)).alloc (.cells #[.int .i64 c.a, .int .i64 c.b, .int .i64 c.c, .int .i64 c.d] 36)).heap[w.heap.size + 1]? = some (.cells #[.int .i64 c.a, .int .i64 c.b, .int .i64 c.c, .int .i64 c.d] 36 (0, 0)) := by have := heap_alloc_new (w.alloc (.cells (mcells f) 44)) (.cells #[.int .i64 c.a, .int .i64 c.b, .int .i64 c.c, .int .i64 c.d] 36); simpa using this
  have HM0 := Lib.hid hM0
  have HC0 := Lib.hid hC0
  clear hM0 hC0
  go_enter Try.func46, Try.ntmps46
  go_wp2_with (first | (go_at_call 69; refine (l2Number_c _ hc _).mono ?_; rintro e w1 ⟨rfl, hx1⟩; have hM1 := (hx1.below.block _ (by simp; omega)).trans HM0.out; have hC1 := (hx1.below.block _ (by simp)).trans HC0.out; have hsz1 := hx1.below.size; have hr1 : isRow w1 w.heap.size 16 = true := isRow_of hM1 rfl; have hr2 := rowAt_of hM1; have hb1 := (Box4.of hC1).c0; have hb2 := (Box4.of hC1).c1; have hb3 := (Box4.of hC1).c2; have hb4 := (Box4.of hC1).c3; have Hx1 := Lib.hid hx1; clear hx1; (try simp at hsz1); have hlt1 : w.heap.size < w1.heap.size := (by omega); have hlt2 : w.heap.size + 1 < w1.heap.size := (by omega)) |
    (go_at_call 70; refine (HC _ _ hc).mono ?_; rintro e w2 ⟨rfl, hx2⟩))
  have hE1 : Ex w w1 := (((Ex.refl w).alloc _).alloc _).trans Hx1.out
  have hxb : w1.heap.size + 1 ≤ w2.heap.size := by have := hx2.below.size; simpa using this
  have hE2 : Ex w1 w2 := ((Ex.refl w1).alloc _).trans hx2
  go_loopw [5, 6] (fun u v wr => ∃ (k g cap xb : Nat) (zs : List Int), 1 ≤ k ∧ k ≤ L ∧ u = .slice (some ⟨g, 0, none⟩) k cap ∧ v = .pointer (some ⟨xb, 0, none⟩) ∧ Ex w wr ∧ wr.heap[w.heap.size]? = some (.cells (mcells f) 44 (0, 0)) ∧ wr.heap[w.heap.size + 1]? = some (.cells #[.int .i64 c.a, .int .i64 c.b, .int .i64 c.c, .int .i64 c.d] 36 (0, 0)) ∧
      wr.heap[xb]? = some (.cells #[.int .i64 (itr (img f) k c).a, .int .i64 (itr (img f) k c).b, .int .i64 (itr (img f) k c).c, .int .i64 (itr (img f) k c).d] 36 (0, 0)) ∧ w.heap.size + 2 ≤ xb ∧ w.heap.size + 2 ≤ g ∧ g ≠ xb ∧ RowV 3 1 w.heap.size wr g cap k (intVals zs)) (fun u _ _ => 18 - lenSl u)
  case atStart =>
    refine ⟨1, w1.heap.size, 1, w2.heap.size, [num c], Nat.le_refl _, ho2, rfl, rfl, (hE1.trans hE2).alloc _, ?_, ?_, heap_alloc_new w2 _, by omega, by omega, by omega, (RowV.lay1' (W := w1) (x := num c) rfl (by omega)).ex (hx2.alloc _)⟩
    · rw [heap_alloc_old (h := by omega), hE2.below.block _ (by omega)]; exact hM1
    · rw [heap_alloc_old (h := by omega), hE2.below.block _ (by omega)]; exact hC1
  case round =>
    obtain ⟨k, g, cap, xb, zs, hk1, hk, rfl, rfl, hE, hM, hC, hX, hxb2, hg2, hgx, hrow⟩ := hrel
    have hokz := Hok.out k
    obtain ⟨z, hz⟩ : ∃ z, itr (img f) k c = z := ⟨_, rfl⟩
    rw [hz] at hX hokz
    have Hz := Lib.hid hz
    have hnx := Lib.hid (show itr (img f) (k + 1) c = img f z by rw [← hz]; rfl)
    clear hz hM1 hC1 hr1 hr2 hb1 hb2 hb3 hb4
    have hltm := lt_of_block hM
    have hltc := lt_of_block hC
    have hltx := lt_of_block hX
    have hc1 := (Box4.of hC).c0
    have hc2 := (Box4.of hC).c1
    have hc3 := (Box4.of hC).c2
    have hc4 := (Box4.of hC).c3
    have hx1' := (Box4.of hX).c0
    have hx2' := (Box4.of hX).c1
    have hx3' := (Box4.of hX).c2
    have hx4' := (Box4.of hX).c3
    have HM := Lib.hid hM
    have HC2 := Lib.hid hC
    have HX := Lib.hid hX
    have Hrow := Lib.hid hrow
    have HE := Lib.hid hE
    clear hM hC hX hrow hE
    cases hzc : ceq z c
    · have hne : k ≠ L := fun e => by
        have h1 := Ho1.out
        rw [← e, Hz.out] at h1
        rw [h1, ceq_self] at hzc
        simp at hzc
      have hkL : k < L := by omega
      have HzL := Lib.hid hzc
      go_wp2_with (first | (go_at_call 69; refine (l2Number_c _ hokz _).mono ?_; rintro e w3 ⟨rfl, hx3⟩; have hsz3 := hx3.below.size) |
        ((at_builtin; refine wp_app rowInt (nW := _) (by simp [go_sem]) rfl _ _ rfl rfl (Hrow.out.ex hx3) 1 1 [.int .i64 (num z)] rfl rfl (one1 _) (by omega) ?c2 ?c3 ?_; (case c2 => (unfold maxLen; omega)); (case c3 => omega); intro g' cap' wq hrow' hK hg'); have hMq := (hK.block _ (by omega) (by omega)).trans ((hx3.below.block _ hltm).trans HM.out); have hCq := (hK.block _ (by omega) (by omega)).trans ((hx3.below.block _ hltc).trans HC2.out); have hXq := (hK.block _ (by omega) (fun e => hgx e.symm)).trans ((hx3.below.block _ hltx).trans HX.out); have hltq := lt_of_block hMq; have hr1 : isRow wq w.heap.size 16 = true := isRow_of hMq rfl; have hr2 := rowAt_of hMq; have hy1 := (Box4.of hXq).c0; have hy2 := (Box4.of hXq).c1; have hy3 := (Box4.of hXq).c2; have hy4 := (Box4.of hXq).c3; have HMq := Lib.hid hMq; have HCq := Lib.hid hCq; clear hMq hCq hXq) |
        (go_at_call 70; refine (HC _ _ hokz).mono ?_; rintro e w4 ⟨rfl, y, rfl⟩))
      have hltc2 := lt_of_block HCq.out
      have hb3 := hrow'.blk
      go_roundw
      case rel =>
        (try ((repeat apply Exists.intro); refine ⟨?_, rfl⟩))
        refine ⟨k + 1, g', cap', wq.heap.size, zs ++ [num z], by omega, by omega, by go_num, rfl, ((Keeps.ex (HE.out.trans hx3) hK (by omega)).alloc _).ext _, ?_, ?_, ?_, by omega, ?_, by omega, ?_⟩
        · rw [ext_heap (h := by simp; omega), heap_alloc_old (h := hltq)]; exact HMq.out
        · rw [ext_heap (h := by simp; omega), heap_alloc_old (h := hltc2)]; exact HCq.out
        · rw [ext_heap (h := by simp), hnx.out]; exact heap_alloc_new wq _
        · have := HE.out.below.size; omega
        · rw [intVals_append]; exact (hrow'.ex ((Ex.refl _).alloc _)).ex ((Ex.refl _).ext _)
      case measure => simp [lenSl]; omega
    · have hkL : k = L := Nat.le_antisymm hk (Ho4.out k hk1 (by rw [Hz.out]; exact (ceq_iff _ _).1 hzc))
      subst hkL
      go_wp2
      go_ret
      exact ⟨g, cap, rfl, HE.out⟩

theorem orbit_g {f : Nat → Int} {c : C4} (hm : mapB f = true) (hc : Ok c) (HC : ∀ (z : C4) (w : World), Ok z → Calls Try.prog 59 #[.agg (mcells f), .agg #[.int .i64 z.a, .int .i64 z.b, .int .i64 z.c, .int .i64 z.d]] w fun e w' => e = .returned (.agg #[.int .i64 (img f z).a, .int .i64 (img f z).b, .int .i64 (img f z).c, .int .i64 (img f z).d]) ∧ Ex w w') (w : World) :
    Calls Try.prog 50 #[.agg (mcells f), .agg #[.int .i64 c.a, .int .i64 c.b, .int .i64 c.c, .int .i64 c.d]] w fun e w' => ∃ g cap, e = .returned (.slice (some ⟨g, 0, none⟩) (orbL f c) cap) ∧ Ex w w' := by
  obtain ⟨ho1, ho2, ho3, ho4⟩ := orbL_ok hm hc
  have Ho1 := Lib.hid ho1
  have Ho4 := Lib.hid ho4
  have Hm := Lib.hid hm
  have HC' := Lib.hid (HC (img f c))
  have Hok := Lib.hid (fun k => itr_ok hm hc k)
  have hci : Ok (img f c) := itr_ok hm hc 1
  clear ho1 ho4 hm
  obtain ⟨L, hL⟩ : ∃ L, L = orbL f c := ⟨_, rfl⟩
  rw [← hL] at ho2 ho3 Ho1 Ho4 ⊢
  have HI1 := Lib.hid (show itr (img f) 1 c = img f c from rfl)
  have hM0 : ((w.alloc (.cells (mcells f) 44)).alloc (.cells #[.int .i64 c.a, .int .i64 c.b, .int .i64 c.c, .int .i64 c.d] 36)).heap[w.heap.size]? = some (.cells (mcells f) 44 (0, 0)) := by rw [heap_alloc_old (h := by simp)]; exact heap_alloc_new _ _
  have hC0 : ((w.alloc (.cells (mcells f) 44)).alloc (.cells #[.int .i64 c.a, .int .i64 c.b, .int .i64 c.c, .int .i64 c.d] 36)).heap[w.heap.size + 1]? = some (.cells #[.int .i64 c.a, .int .i64 c.b, .int .i64 c.c, .int .i64 c.d] 36 (0, 0)) := by have := heap_alloc_new (w.alloc (.cells (mcells f) 44)) (.cells #[.int .i64 c.a, .int .i64 c.b, .int .i64 c.c, .int .i64 c.d] 36); simpa using this
  have HM0 := Lib.hid hM0
  have HC0 := Lib.hid hC0
  clear hM0 hC0
  go_enter Try.func50, Try.ntmps50
  go_wp2_with (first | (go_at_call 73; refine (number_c _ hc _).mono ?_; rintro e w1 ⟨rfl, hx1⟩; have hM1 := (hx1.below.block _ (by simp; omega)).trans HM0.out; have hC1 := (hx1.below.block _ (by simp)).trans HC0.out; have hsz1 := hx1.below.size; have hr1 : isRow w1 w.heap.size 16 = true := isRow_of hM1 rfl; have hr2 := rowAt_of hM1; have hb1 := (Box4.of hC1).c0; have hb2 := (Box4.of hC1).c1; have hb3 := (Box4.of hC1).c2; have hb4 := (Box4.of hC1).c3; have Hx1 := Lib.hid hx1; clear hx1; (try simp at hsz1); have hlt1 : w.heap.size < w1.heap.size := (by omega); have hlt2 : w.heap.size + 1 < w1.heap.size := (by omega)) |
    (go_at_call 59; refine (HC _ _ hc).mono ?_; rintro e w2 ⟨rfl, hx2⟩))
  have hE1 : Ex w w1 := (((Ex.refl w).alloc _).alloc _).trans Hx1.out
  have hxb : w1.heap.size + 1 ≤ w2.heap.size := by have := hx2.below.size; simpa using this
  have hE2 : Ex w1 w2 := ((Ex.refl w1).alloc _).trans hx2
  go_loopw [5, 6] (fun u v wr => ∃ (k g cap xb : Nat) (zs : List Int), 1 ≤ k ∧ k ≤ L ∧ u = .slice (some ⟨g, 0, none⟩) k cap ∧ v = .pointer (some ⟨xb, 0, none⟩) ∧ Ex w wr ∧ wr.heap[w.heap.size]? = some (.cells (mcells f) 44 (0, 0)) ∧ wr.heap[w.heap.size + 1]? = some (.cells #[.int .i64 c.a, .int .i64 c.b, .int .i64 c.c, .int .i64 c.d] 36 (0, 0)) ∧
      wr.heap[xb]? = some (.cells #[.int .i64 (itr (img f) k c).a, .int .i64 (itr (img f) k c).b, .int .i64 (itr (img f) k c).c, .int .i64 (itr (img f) k c).d] 36 (0, 0)) ∧ w.heap.size + 2 ≤ xb ∧ w.heap.size + 2 ≤ g ∧ g ≠ xb ∧ RowV 3 1 w.heap.size wr g cap k (intVals zs)) (fun u _ _ => 18 - lenSl u)
  case atStart =>
    refine ⟨1, w1.heap.size, 1, w2.heap.size, [num c], Nat.le_refl _, ho2, rfl, rfl, (hE1.trans hE2).alloc _, ?_, ?_, heap_alloc_new w2 _, by omega, by omega, by omega, (RowV.lay1' (W := w1) (x := num c) rfl (by omega)).ex (hx2.alloc _)⟩
    · rw [heap_alloc_old (h := by omega), hE2.below.block _ (by omega)]; exact hM1
    · rw [heap_alloc_old (h := by omega), hE2.below.block _ (by omega)]; exact hC1
  case round =>
    obtain ⟨k, g, cap, xb, zs, hk1, hk, rfl, rfl, hE, hM, hC, hX, hxb2, hg2, hgx, hrow⟩ := hrel
    have hokz := Hok.out k
    obtain ⟨z, hz⟩ : ∃ z, itr (img f) k c = z := ⟨_, rfl⟩
    rw [hz] at hX hokz
    have Hz := Lib.hid hz
    have hnx := Lib.hid (show itr (img f) (k + 1) c = img f z by rw [← hz]; rfl)
    clear hz hM1 hC1 hr1 hr2 hb1 hb2 hb3 hb4
    have hltm := lt_of_block hM
    have hltc := lt_of_block hC
    have hltx := lt_of_block hX
    have hc1 := (Box4.of hC).c0
    have hc2 := (Box4.of hC).c1
    have hc3 := (Box4.of hC).c2
    have hc4 := (Box4.of hC).c3
    have hx1' := (Box4.of hX).c0
    have hx2' := (Box4.of hX).c1
    have hx3' := (Box4.of hX).c2
    have hx4' := (Box4.of hX).c3
    have HM := Lib.hid hM
    have HC2 := Lib.hid hC
    have HX := Lib.hid hX
    have Hrow := Lib.hid hrow
    have HE := Lib.hid hE
    clear hM hC hX hrow hE
    cases hzc : ceq z c
    · have hne : k ≠ L := fun e => by
        have h1 := Ho1.out
        rw [← e, Hz.out] at h1
        rw [h1, ceq_self] at hzc
        simp at hzc
      have hkL : k < L := by omega
      have HzL := Lib.hid hzc
      go_wp2_with (first | (go_at_call 73; refine (number_c _ hokz _).mono ?_; rintro e w3 ⟨rfl, hx3⟩; have hsz3 := hx3.below.size) |
        ((at_builtin; refine wp_app rowInt (nW := _) (by simp [go_sem]) rfl _ _ rfl rfl (Hrow.out.ex hx3) 1 1 [.int .i64 (num z)] rfl rfl (one1 _) (by omega) ?c2 ?c3 ?_; (case c2 => (unfold maxLen; omega)); (case c3 => omega); intro g' cap' wq hrow' hK hg'); have hMq := (hK.block _ (by omega) (by omega)).trans ((hx3.below.block _ hltm).trans HM.out); have hCq := (hK.block _ (by omega) (by omega)).trans ((hx3.below.block _ hltc).trans HC2.out); have hXq := (hK.block _ (by omega) (fun e => hgx e.symm)).trans ((hx3.below.block _ hltx).trans HX.out); have hltq := lt_of_block hMq; have hr1 : isRow wq w.heap.size 16 = true := isRow_of hMq rfl; have hr2 := rowAt_of hMq; have hy1 := (Box4.of hXq).c0; have hy2 := (Box4.of hXq).c1; have hy3 := (Box4.of hXq).c2; have hy4 := (Box4.of hXq).c3; have HMq := Lib.hid hMq; have HCq := Lib.hid hCq; clear hMq hCq hXq) |
        (go_at_call 59; refine (HC _ _ hokz).mono ?_; rintro e w4 ⟨rfl, y, rfl⟩))
      have hltc2 := lt_of_block HCq.out
      have hb3 := hrow'.blk
      go_roundw
      case rel =>
        (try ((repeat apply Exists.intro); refine ⟨?_, rfl⟩))
        refine ⟨k + 1, g', cap', wq.heap.size, zs ++ [num z], by omega, by omega, by go_num, rfl, ((Keeps.ex (HE.out.trans hx3) hK (by omega)).alloc _).ext _, ?_, ?_, ?_, by omega, ?_, by omega, ?_⟩
        · rw [ext_heap (h := by simp; omega), heap_alloc_old (h := hltq)]; exact HMq.out
        · rw [ext_heap (h := by simp; omega), heap_alloc_old (h := hltc2)]; exact HCq.out
        · rw [ext_heap (h := by simp), hnx.out]; exact heap_alloc_new wq _
        · have := HE.out.below.size; omega
        · rw [intVals_append]; exact (hrow'.ex ((Ex.refl _).alloc _)).ex ((Ex.refl _).ext _)
      case measure => simp [lenSl]; omega
    · have hkL : k = L := Nat.le_antisymm hk (Ho4.out k hk1 (by rw [Hz.out]; exact (ceq_iff _ _).1 hzc))
      subst hkL
      go_wp2
      go_ret
      exact ⟨g, cap, rfl, HE.out⟩
theorem l5Orbit_c {f : Nat → Int} {c : C4} (hm : mapB f = true) (hc : Ok c) (w : World) :
    Calls Try.prog 46 #[.agg (mcells f), .agg #[.int .i64 c.a, .int .i64 c.b, .int .i64 c.c, .int .i64 c.d]] w fun e w' => ∃ g cap, e = .returned (.slice (some ⟨g, 0, none⟩) (orbL f c) cap) ∧ Ex w w' := l5Orbit_g hm hc (fun z w hz => l5Card_c hm hz w) w
theorem orbit_c {f : Nat → Int} {c : C4} (hm : mapB f = true) (hc : Ok c) (w : World) :
    Calls Try.prog 50 #[.agg (mcells f), .agg #[.int .i64 c.a, .int .i64 c.b, .int .i64 c.c, .int .i64 c.d]] w fun e w' => ∃ g cap, e = .returned (.slice (some ⟨g, 0, none⟩) (orbL f c) cap) ∧ Ex w w' := orbit_g hm hc (fun z w hz => image_c hm hz w) w
end Go.Proofs.Ytkmnnnhnajnefaa
