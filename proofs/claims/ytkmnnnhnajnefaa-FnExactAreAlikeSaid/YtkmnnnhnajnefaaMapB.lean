/- The walks of IsMap, and of the law on it. -/
import Derived.Test.YtkmnnnhnajnefaaM16
import Derived.Test.YtkmnnnhnajnefaaOrder
namespace Go.Proofs.Ytkmnnnhnajnefaa
set_option linter.unusedSimpArgs false
set_option linter.unusedVariables false
set_option maxHeartbeats 1000000
set_option maxRecDepth 100000
open Go.RowKit

/-- Is it a map? -/
def mapB (f : Nat → Int) : Bool := permB [f 4, f 5, f 6] && (permB [f 7, f 8, f 9] && (permB [f 10, f 11, f 12] && (permB [f 13, f 14, f 15] && permB [f 0, f 1, f 2, f 3])))
theorem l5Perm_r {zs : List Int} {b0 o0 n cap : Nat} {r : Bool} {w : World} (hl : zs.length = n) (hn : n ≤ 1000) (hcap : n ≤ cap) (hz : SlI w (some ⟨b0, o0, none⟩) zs) (h : permB zs = r) :
    Calls Try.prog 68 #[.slice (some ⟨b0, o0, none⟩) n cap] w fun e w' => e = .returned (.bool r) ∧ Ex w w' := by
  subst h; exact l5Perm_c zs b0 o0 n cap w hl hn hcap hz
theorem slv3 (x y z : Int) (W : World) (T n : Nat) (hn : n = W.heap.size) : SlI (W.alloc (.cells #[.int .i64 x, .int .i64 y, .int .i64 z] T)) (some ⟨n, 0, none⟩) [x, y, z] := by
  subst hn
  intro i hi
  refine ⟨W.heap.size, 0, rfl, by simp, ?_⟩
  match i, hi with
  | 0, _ => go_simp
  | 1, _ => go_simp
  | 2, _ => go_simp
theorem slm0 (f : Nat → Int) (W : World) (T n : Nat) (hn : n = W.heap.size) : SlI (W.alloc (.cells (mcells f) T)) (some ⟨n, 4, none⟩) [f 4, f 5, f 6] := by
  subst hn
  intro i hi
  refine ⟨W.heap.size, 4, rfl, by simp, ?_⟩
  match i, hi with
  | 0, _ => go_simp
  | 1, _ => go_simp
  | 2, _ => go_simp
theorem slm1 (f : Nat → Int) (W : World) (T n : Nat) (hn : n = W.heap.size) : SlI (W.alloc (.cells (mcells f) T)) (some ⟨n, 7, none⟩) [f 7, f 8, f 9] := by
  subst hn
  intro i hi
  refine ⟨W.heap.size, 7, rfl, by simp, ?_⟩
  match i, hi with
  | 0, _ => go_simp
  | 1, _ => go_simp
  | 2, _ => go_simp
theorem slm2 (f : Nat → Int) (W : World) (T n : Nat) (hn : n = W.heap.size) : SlI (W.alloc (.cells (mcells f) T)) (some ⟨n, 10, none⟩) [f 10, f 11, f 12] := by
  subst hn
  intro i hi
  refine ⟨W.heap.size, 10, rfl, by simp, ?_⟩
  match i, hi with
  | 0, _ => go_simp
  | 1, _ => go_simp
  | 2, _ => go_simp
theorem slm3 (f : Nat → Int) (W : World) (T n : Nat) (hn : n = W.heap.size) : SlI (W.alloc (.cells (mcells f) T)) (some ⟨n, 13, none⟩) [f 13, f 14, f 15] := by
  subst hn
  intro i hi
  refine ⟨W.heap.size, 13, rfl, by simp, ?_⟩
  match i, hi with
  | 0, _ => go_simp
  | 1, _ => go_simp
  | 2, _ => go_simp
theorem slm4 (f : Nat → Int) (W : World) (T n : Nat) (hn : n = W.heap.size) : SlI (W.alloc (.cells (mcells f) T)) (some ⟨n, 0, none⟩) [f 0, f 1, f 2, f 3] := by
  subst hn
  intro i hi
  refine ⟨W.heap.size, 0, rfl, by simp, ?_⟩
  match i, hi with
  | 0, _ => go_simp
  | 1, _ => go_simp
  | 2, _ => go_simp
  | 3, _ => go_simp
theorem index_v0 (x0 x1 x2 x3 x4 x5 x6 x7 x8 x9 x10 x11 : Value) (w : World) : (Instr.index 38 (.agg #[x0, x1, x2, x3, x4, x5, x6, x7, x8, x9, x10, x11]) (.int .i64 0)).run Try.prog w = .ok (.agg #[x0, x1, x2]) w := by kernel_rfl
theorem index_v1 (x0 x1 x2 x3 x4 x5 x6 x7 x8 x9 x10 x11 : Value) (w : World) : (Instr.index 38 (.agg #[x0, x1, x2, x3, x4, x5, x6, x7, x8, x9, x10, x11]) (.int .i64 1)).run Try.prog w = .ok (.agg #[x3, x4, x5]) w := by kernel_rfl
theorem index_v2 (x0 x1 x2 x3 x4 x5 x6 x7 x8 x9 x10 x11 : Value) (w : World) : (Instr.index 38 (.agg #[x0, x1, x2, x3, x4, x5, x6, x7, x8, x9, x10, x11]) (.int .i64 2)).run Try.prog w = .ok (.agg #[x6, x7, x8]) w := by kernel_rfl
theorem index_v3 (x0 x1 x2 x3 x4 x5 x6 x7 x8 x9 x10 x11 : Value) (w : World) : (Instr.index 38 (.agg #[x0, x1, x2, x3, x4, x5, x6, x7, x8, x9, x10, x11]) (.int .i64 3)).run Try.prog w = .ok (.agg #[x9, x10, x11]) w := by kernel_rfl
attribute [go_sem ↓] index_v0 index_v1 index_v2 index_v3
theorem l5Map_c_0 (f : Nat → Int) (w : World) (hh0 : permB [f 4, f 5, f 6] = false) : Calls Try.prog 45 #[.agg (mcells f)] w fun e w' => e = .returned (.bool false) ∧ Ex w w' := by
  have Hh0 := Lib.hid hh0
  clear hh0
  go_enter Try.func45, Try.ntmps45
  go_wp2
  refine wp_loop_rounds 5 ?_
  rw [rounds_succ]; go_wp2_with (go_at_call 68; refine (l5Perm_r (zs := [f 4, f 5, f 6]) (n := 3) (cap := 3) rfl (by decide) (by decide) ((slm0 f w 44 _ rfl).ex (by exact by repeat (first | with_reducible exact Ex.refl _ | with_reducible refine Ex.ext ?_ _ | with_reducible refine Ex.alloc ?_ _ | with_reducible refine Ex.drew ?_))) Hh0.out).mono ?_; rintro e w' ⟨rfl, x, rfl⟩)
  go_ret
  exact ⟨rfl, by repeat (first | with_reducible exact Ex.refl _ | with_reducible refine Ex.ext ?_ _ | with_reducible refine Ex.alloc ?_ _ | with_reducible refine Ex.drew ?_)⟩
theorem l5Map_c_1 (f : Nat → Int) (w : World) (hh0 : permB [f 4, f 5, f 6] = true) (hh1 : permB [f 7, f 8, f 9] = false) : Calls Try.prog 45 #[.agg (mcells f)] w fun e w' => e = .returned (.bool false) ∧ Ex w w' := by
  have Hh0 := Lib.hid hh0
  have Hh1 := Lib.hid hh1
  clear hh0 hh1
  go_enter Try.func45, Try.ntmps45
  go_wp2
  refine wp_loop_rounds 5 ?_
  rw [rounds_succ]; go_wp2_with (go_at_call 68; refine (l5Perm_r (zs := [f 4, f 5, f 6]) (n := 3) (cap := 3) rfl (by decide) (by decide) ((slm0 f w 44 _ rfl).ex (by exact by repeat (first | with_reducible exact Ex.refl _ | with_reducible refine Ex.ext ?_ _ | with_reducible refine Ex.alloc ?_ _ | with_reducible refine Ex.drew ?_))) Hh0.out).mono ?_; rintro e w' ⟨rfl, x, rfl⟩)
  rw [rounds_succ]; go_wp2_with (go_at_call 68; refine (l5Perm_r (zs := [f 7, f 8, f 9]) (n := 3) (cap := 3) rfl (by decide) (by decide) ((slm1 f w 44 _ rfl).ex (by exact by repeat (first | with_reducible exact Ex.refl _ | with_reducible refine Ex.ext ?_ _ | with_reducible refine Ex.alloc ?_ _ | with_reducible refine Ex.drew ?_))) Hh1.out).mono ?_; rintro e w' ⟨rfl, x, rfl⟩)
  go_ret
  exact ⟨rfl, by repeat (first | with_reducible exact Ex.refl _ | with_reducible refine Ex.ext ?_ _ | with_reducible refine Ex.alloc ?_ _ | with_reducible refine Ex.drew ?_)⟩
theorem l5Map_c_2 (f : Nat → Int) (w : World) (hh0 : permB [f 4, f 5, f 6] = true) (hh1 : permB [f 7, f 8, f 9] = true) (hh2 : permB [f 10, f 11, f 12] = false) : Calls Try.prog 45 #[.agg (mcells f)] w fun e w' => e = .returned (.bool false) ∧ Ex w w' := by
  have Hh0 := Lib.hid hh0
  have Hh1 := Lib.hid hh1
  have Hh2 := Lib.hid hh2
  clear hh0 hh1 hh2
  go_enter Try.func45, Try.ntmps45
  go_wp2
  refine wp_loop_rounds 5 ?_
  rw [rounds_succ]; go_wp2_with (go_at_call 68; refine (l5Perm_r (zs := [f 4, f 5, f 6]) (n := 3) (cap := 3) rfl (by decide) (by decide) ((slm0 f w 44 _ rfl).ex (by exact by repeat (first | with_reducible exact Ex.refl _ | with_reducible refine Ex.ext ?_ _ | with_reducible refine Ex.alloc ?_ _ | with_reducible refine Ex.drew ?_))) Hh0.out).mono ?_; rintro e w' ⟨rfl, x, rfl⟩)
  rw [rounds_succ]; go_wp2_with (go_at_call 68; refine (l5Perm_r (zs := [f 7, f 8, f 9]) (n := 3) (cap := 3) rfl (by decide) (by decide) ((slm1 f w 44 _ rfl).ex (by exact by repeat (first | with_reducible exact Ex.refl _ | with_reducible refine Ex.ext ?_ _ | with_reducible refine Ex.alloc ?_ _ | with_reducible refine Ex.drew ?_))) Hh1.out).mono ?_; rintro e w' ⟨rfl, x, rfl⟩)
  rw [rounds_succ]; go_wp2_with (go_at_call 68; refine (l5Perm_r (zs := [f 10, f 11, f 12]) (n := 3) (cap := 3) rfl (by decide) (by decide) ((slm2 f w 44 _ rfl).ex (by exact by repeat (first | with_reducible exact Ex.refl _ | with_reducible refine Ex.ext ?_ _ | with_reducible refine Ex.alloc ?_ _ | with_reducible refine Ex.drew ?_))) Hh2.out).mono ?_; rintro e w' ⟨rfl, x, rfl⟩)
  go_ret
  exact ⟨rfl, by repeat (first | with_reducible exact Ex.refl _ | with_reducible refine Ex.ext ?_ _ | with_reducible refine Ex.alloc ?_ _ | with_reducible refine Ex.drew ?_)⟩
theorem l5Map_c_3 (f : Nat → Int) (w : World) (hh0 : permB [f 4, f 5, f 6] = true) (hh1 : permB [f 7, f 8, f 9] = true) (hh2 : permB [f 10, f 11, f 12] = true) (hh3 : permB [f 13, f 14, f 15] = false) : Calls Try.prog 45 #[.agg (mcells f)] w fun e w' => e = .returned (.bool false) ∧ Ex w w' := by
  have Hh0 := Lib.hid hh0
  have Hh1 := Lib.hid hh1
  have Hh2 := Lib.hid hh2
  have Hh3 := Lib.hid hh3
  clear hh0 hh1 hh2 hh3
  go_enter Try.func45, Try.ntmps45
  go_wp2
  refine wp_loop_rounds 5 ?_
  rw [rounds_succ]; go_wp2_with (go_at_call 68; refine (l5Perm_r (zs := [f 4, f 5, f 6]) (n := 3) (cap := 3) rfl (by decide) (by decide) ((slm0 f w 44 _ rfl).ex (by exact by repeat (first | with_reducible exact Ex.refl _ | with_reducible refine Ex.ext ?_ _ | with_reducible refine Ex.alloc ?_ _ | with_reducible refine Ex.drew ?_))) Hh0.out).mono ?_; rintro e w' ⟨rfl, x, rfl⟩)
  rw [rounds_succ]; go_wp2_with (go_at_call 68; refine (l5Perm_r (zs := [f 7, f 8, f 9]) (n := 3) (cap := 3) rfl (by decide) (by decide) ((slm1 f w 44 _ rfl).ex (by exact by repeat (first | with_reducible exact Ex.refl _ | with_reducible refine Ex.ext ?_ _ | with_reducible refine Ex.alloc ?_ _ | with_reducible refine Ex.drew ?_))) Hh1.out).mono ?_; rintro e w' ⟨rfl, x, rfl⟩)
  rw [rounds_succ]; go_wp2_with (go_at_call 68; refine (l5Perm_r (zs := [f 10, f 11, f 12]) (n := 3) (cap := 3) rfl (by decide) (by decide) ((slm2 f w 44 _ rfl).ex (by exact by repeat (first | with_reducible exact Ex.refl _ | with_reducible refine Ex.ext ?_ _ | with_reducible refine Ex.alloc ?_ _ | with_reducible refine Ex.drew ?_))) Hh2.out).mono ?_; rintro e w' ⟨rfl, x, rfl⟩)
  rw [rounds_succ]; go_wp2_with (go_at_call 68; refine (l5Perm_r (zs := [f 13, f 14, f 15]) (n := 3) (cap := 3) rfl (by decide) (by decide) ((slm3 f w 44 _ rfl).ex (by exact by repeat (first | with_reducible exact Ex.refl _ | with_reducible refine Ex.ext ?_ _ | with_reducible refine Ex.alloc ?_ _ | with_reducible refine Ex.drew ?_))) Hh3.out).mono ?_; rintro e w' ⟨rfl, x, rfl⟩)
  go_ret
  exact ⟨rfl, by repeat (first | with_reducible exact Ex.refl _ | with_reducible refine Ex.ext ?_ _ | with_reducible refine Ex.alloc ?_ _ | with_reducible refine Ex.drew ?_)⟩
theorem l5Map_c_4 (f : Nat → Int) (w : World) (hh0 : permB [f 4, f 5, f 6] = true) (hh1 : permB [f 7, f 8, f 9] = true) (hh2 : permB [f 10, f 11, f 12] = true) (hh3 : permB [f 13, f 14, f 15] = true) (hh4 : permB [f 0, f 1, f 2, f 3] = false) : Calls Try.prog 45 #[.agg (mcells f)] w fun e w' => e = .returned (.bool false) ∧ Ex w w' := by
  have Hh0 := Lib.hid hh0
  have Hh1 := Lib.hid hh1
  have Hh2 := Lib.hid hh2
  have Hh3 := Lib.hid hh3
  have Hh4 := Lib.hid hh4
  clear hh0 hh1 hh2 hh3 hh4
  go_enter Try.func45, Try.ntmps45
  go_wp2
  refine wp_loop_rounds 5 ?_
  rw [rounds_succ]; go_wp2_with (go_at_call 68; refine (l5Perm_r (zs := [f 4, f 5, f 6]) (n := 3) (cap := 3) rfl (by decide) (by decide) ((slm0 f w 44 _ rfl).ex (by exact by repeat (first | with_reducible exact Ex.refl _ | with_reducible refine Ex.ext ?_ _ | with_reducible refine Ex.alloc ?_ _ | with_reducible refine Ex.drew ?_))) Hh0.out).mono ?_; rintro e w' ⟨rfl, x, rfl⟩)
  rw [rounds_succ]; go_wp2_with (go_at_call 68; refine (l5Perm_r (zs := [f 7, f 8, f 9]) (n := 3) (cap := 3) rfl (by decide) (by decide) ((slm1 f w 44 _ rfl).ex (by exact by repeat (first | with_reducible exact Ex.refl _ | with_reducible refine Ex.ext ?_ _ | with_reducible refine Ex.alloc ?_ _ | with_reducible refine Ex.drew ?_))) Hh1.out).mono ?_; rintro e w' ⟨rfl, x, rfl⟩)
  rw [rounds_succ]; go_wp2_with (go_at_call 68; refine (l5Perm_r (zs := [f 10, f 11, f 12]) (n := 3) (cap := 3) rfl (by decide) (by decide) ((slm2 f w 44 _ rfl).ex (by exact by repeat (first | with_reducible exact Ex.refl _ | with_reducible refine Ex.ext ?_ _ | with_reducible refine Ex.alloc ?_ _ | with_reducible refine Ex.drew ?_))) Hh2.out).mono ?_; rintro e w' ⟨rfl, x, rfl⟩)
  rw [rounds_succ]; go_wp2_with (go_at_call 68; refine (l5Perm_r (zs := [f 13, f 14, f 15]) (n := 3) (cap := 3) rfl (by decide) (by decide) ((slm3 f w 44 _ rfl).ex (by exact by repeat (first | with_reducible exact Ex.refl _ | with_reducible refine Ex.ext ?_ _ | with_reducible refine Ex.alloc ?_ _ | with_reducible refine Ex.drew ?_))) Hh3.out).mono ?_; rintro e w' ⟨rfl, x, rfl⟩)
  rw [rounds_succ]; go_wp2_with (go_at_call 68; refine (l5Perm_r (zs := [f 0, f 1, f 2, f 3]) (n := 4) (cap := 4) rfl (by decide) (by decide) ((slm4 f w 44 _ rfl).ex (by exact by repeat (first | with_reducible exact Ex.refl _ | with_reducible refine Ex.ext ?_ _ | with_reducible refine Ex.alloc ?_ _ | with_reducible refine Ex.drew ?_))) Hh4.out).mono ?_; rintro e w' ⟨rfl, x, rfl⟩)
  go_ret
  exact ⟨rfl, by repeat (first | with_reducible exact Ex.refl _ | with_reducible refine Ex.ext ?_ _ | with_reducible refine Ex.alloc ?_ _ | with_reducible refine Ex.drew ?_)⟩
theorem l5Map_c_5 (f : Nat → Int) (w : World) (hh0 : permB [f 4, f 5, f 6] = true) (hh1 : permB [f 7, f 8, f 9] = true) (hh2 : permB [f 10, f 11, f 12] = true) (hh3 : permB [f 13, f 14, f 15] = true) (hh4 : permB [f 0, f 1, f 2, f 3] = true) : Calls Try.prog 45 #[.agg (mcells f)] w fun e w' => e = .returned (.bool true) ∧ Ex w w' := by
  have Hh0 := Lib.hid hh0
  have Hh1 := Lib.hid hh1
  have Hh2 := Lib.hid hh2
  have Hh3 := Lib.hid hh3
  have Hh4 := Lib.hid hh4
  clear hh0 hh1 hh2 hh3 hh4
  go_enter Try.func45, Try.ntmps45
  go_wp2
  refine wp_loop_rounds 5 ?_
  rw [rounds_succ]; go_wp2_with (go_at_call 68; refine (l5Perm_r (zs := [f 4, f 5, f 6]) (n := 3) (cap := 3) rfl (by decide) (by decide) ((slm0 f w 44 _ rfl).ex (by exact by repeat (first | with_reducible exact Ex.refl _ | with_reducible refine Ex.ext ?_ _ | with_reducible refine Ex.alloc ?_ _ | with_reducible refine Ex.drew ?_))) Hh0.out).mono ?_; rintro e w' ⟨rfl, x, rfl⟩)
  rw [rounds_succ]; go_wp2_with (go_at_call 68; refine (l5Perm_r (zs := [f 7, f 8, f 9]) (n := 3) (cap := 3) rfl (by decide) (by decide) ((slm1 f w 44 _ rfl).ex (by exact by repeat (first | with_reducible exact Ex.refl _ | with_reducible refine Ex.ext ?_ _ | with_reducible refine Ex.alloc ?_ _ | with_reducible refine Ex.drew ?_))) Hh1.out).mono ?_; rintro e w' ⟨rfl, x, rfl⟩)
  rw [rounds_succ]; go_wp2_with (go_at_call 68; refine (l5Perm_r (zs := [f 10, f 11, f 12]) (n := 3) (cap := 3) rfl (by decide) (by decide) ((slm2 f w 44 _ rfl).ex (by exact by repeat (first | with_reducible exact Ex.refl _ | with_reducible refine Ex.ext ?_ _ | with_reducible refine Ex.alloc ?_ _ | with_reducible refine Ex.drew ?_))) Hh2.out).mono ?_; rintro e w' ⟨rfl, x, rfl⟩)
  rw [rounds_succ]; go_wp2_with (go_at_call 68; refine (l5Perm_r (zs := [f 13, f 14, f 15]) (n := 3) (cap := 3) rfl (by decide) (by decide) ((slm3 f w 44 _ rfl).ex (by exact by repeat (first | with_reducible exact Ex.refl _ | with_reducible refine Ex.ext ?_ _ | with_reducible refine Ex.alloc ?_ _ | with_reducible refine Ex.drew ?_))) Hh3.out).mono ?_; rintro e w' ⟨rfl, x, rfl⟩)
  rw [rounds_succ]; go_wp2_with (go_at_call 68; refine (l5Perm_r (zs := [f 0, f 1, f 2, f 3]) (n := 4) (cap := 4) rfl (by decide) (by decide) ((slm4 f w 44 _ rfl).ex (by exact by repeat (first | with_reducible exact Ex.refl _ | with_reducible refine Ex.ext ?_ _ | with_reducible refine Ex.alloc ?_ _ | with_reducible refine Ex.drew ?_))) Hh4.out).mono ?_; rintro e w' ⟨rfl, x, rfl⟩)
  go_ret
  exact ⟨rfl, by repeat (first | with_reducible exact Ex.refl _ | with_reducible refine Ex.ext ?_ _ | with_reducible refine Ex.alloc ?_ _ | with_reducible refine Ex.drew ?_)⟩
theorem l5Map_c (f : Nat → Int) (w : World) : Calls Try.prog 45 #[.agg (mcells f)] w fun e w' => e = .returned (.bool (mapB f)) ∧ Ex w w' := by
  by_cases hh0 : permB [f 4, f 5, f 6] = true
  rotate_left
  · have hh0 : permB [f 4, f 5, f 6] = false := by simpa using hh0
    have hR : mapB f = false := by simp [mapB, hh0]
    rw [hR]; exact l5Map_c_0 f w hh0
  by_cases hh1 : permB [f 7, f 8, f 9] = true
  rotate_left
  · have hh1 : permB [f 7, f 8, f 9] = false := by simpa using hh1
    have hR : mapB f = false := by simp [mapB, hh0, hh1]
    rw [hR]; exact l5Map_c_1 f w hh0 hh1
  by_cases hh2 : permB [f 10, f 11, f 12] = true
  rotate_left
  · have hh2 : permB [f 10, f 11, f 12] = false := by simpa using hh2
    have hR : mapB f = false := by simp [mapB, hh0, hh1, hh2]
    rw [hR]; exact l5Map_c_2 f w hh0 hh1 hh2
  by_cases hh3 : permB [f 13, f 14, f 15] = true
  rotate_left
  · have hh3 : permB [f 13, f 14, f 15] = false := by simpa using hh3
    have hR : mapB f = false := by simp [mapB, hh0, hh1, hh2, hh3]
    rw [hR]; exact l5Map_c_3 f w hh0 hh1 hh2 hh3
  by_cases hh4 : permB [f 0, f 1, f 2, f 3] = true
  rotate_left
  · have hh4 : permB [f 0, f 1, f 2, f 3] = false := by simpa using hh4
    have hR : mapB f = false := by simp [mapB, hh0, hh1, hh2, hh3, hh4]
    rw [hR]; exact l5Map_c_4 f w hh0 hh1 hh2 hh3 hh4
  have hR : mapB f = true := by simp [mapB, hh0, hh1, hh2, hh3, hh4]
  rw [hR]; exact l5Map_c_5 f w hh0 hh1 hh2 hh3 hh4
end Go.Proofs.Ytkmnnnhnajnefaa
