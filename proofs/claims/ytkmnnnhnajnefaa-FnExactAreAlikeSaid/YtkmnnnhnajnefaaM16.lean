/- Maps as sixteen numbers: how their memory reads; the walks of the laws' own helpers on them. -/
import Derived.Test.YtkmnnnhnajnefaaLawA
import Derived.Test.YtkmnnnhnajnefaaCard3
import Derived.Test.YtkmnnnhnajnefaaRowV
import Derived.Laws.CopyRow
namespace Go.Proofs.Ytkmnnnhnajnefaa
set_option linter.unusedSimpArgs false
set_option linter.unusedVariables false
set_option maxHeartbeats 1000000
set_option maxRecDepth 100000
open Go.RowKit

/-- The cells of a map: four traits, then four times three values. -/
def mcells (f : Nat → Int) : Array Value := #[.int .i64 (f 0), .int .i64 (f 1), .int .i64 (f 2), .int .i64 (f 3), .int .i64 (f 4), .int .i64 (f 5), .int .i64 (f 6), .int .i64 (f 7), .int .i64 (f 8), .int .i64 (f 9), .int .i64 (f 10), .int .i64 (f 11), .int .i64 (f 12), .int .i64 (f 13), .int .i64 (f 14), .int .i64 (f 15)]
/-- The cells of the values alone. -/
def vcells (f : Nat → Int) : Array Value := #[.int .i64 (f 0), .int .i64 (f 1), .int .i64 (f 2), .int .i64 (f 3), .int .i64 (f 4), .int .i64 (f 5), .int .i64 (f 6), .int .i64 (f 7), .int .i64 (f 8), .int .i64 (f 9), .int .i64 (f 10), .int .i64 (f 11)]
def upd (f : Nat → Int) (j : Nat) (x : Int) : Nat → Int := fun i => if i = j then x else f i
theorem nat16 {j : Nat} (h : j < 16) : j = 0 ∨ j = 1 ∨ j = 2 ∨ j = 3 ∨ j = 4 ∨ j = 5 ∨ j = 6 ∨ j = 7 ∨ j = 8 ∨ j = 9 ∨ j = 10 ∨ j = 11 ∨ j = 12 ∨ j = 13 ∨ j = 14 ∨ j = 15 := by omega
theorem mcells_size (f : Nat → Int) : (mcells f).size = 16 := rfl
@[go_sem] theorem mcells_get (f : Nat → Int) (j : Nat) (h : j < 16) : (mcells f)[j]? = some (.int .i64 (f j)) := by
  rcases nat16 h with rfl | rfl | rfl | rfl | rfl | rfl | rfl | rfl | rfl | rfl | rfl | rfl | rfl | rfl | rfl | rfl <;> rfl
@[go_sem] theorem mcells_set (f : Nat → Int) (j : Nat) (x : Int) (h : j < 16) : (mcells f).setIfInBounds j (.int .i64 x) = mcells (upd f j x) := by
  rcases nat16 h with rfl | rfl | rfl | rfl | rfl | rfl | rfl | rfl | rfl | rfl | rfl | rfl | rfl | rfl | rfl | rfl <;> rfl
theorem mcells_eq {f g : Nat → Int} (h : ∀ j, j < 16 → f j = g j) : mcells f = mcells g := by
  unfold mcells
  rw [h 0 (by omega), h 1 (by omega), h 2 (by omega), h 3 (by omega), h 4 (by omega), h 5 (by omega), h 6 (by omega), h 7 (by omega), h 8 (by omega), h 9 (by omega), h 10 (by omega), h 11 (by omega), h 12 (by omega), h 13 (by omega), h 14 (by omega), h 15 (by omega)]
def mzero : Nat → Int := fun _ => 0
@[go_sem] theorem mcells_zero : (#[.int .i64 0, .int .i64 0, .int .i64 0, .int .i64 0, .int .i64 0, .int .i64 0, .int .i64 0, .int .i64 0, .int .i64 0, .int .i64 0, .int .i64 0, .int .i64 0, .int .i64 0, .int .i64 0, .int .i64 0, .int .i64 0] : Array Value) = mcells mzero := by unfold mcells; rfl
@[go_sem] theorem mcells_fold (f : Nat → Int) : (#[.int .i64 (f 0), .int .i64 (f 1), .int .i64 (f 2), .int .i64 (f 3), .int .i64 (f 4), .int .i64 (f 5), .int .i64 (f 6), .int .i64 (f 7), .int .i64 (f 8), .int .i64 (f 9), .int .i64 (f 10), .int .i64 (f 11), .int .i64 (f 12), .int .i64 (f 13), .int .i64 (f 14), .int .i64 (f 15)] : Array Value) = mcells f := by unfold mcells; rfl
@[go_sem] theorem vcells_fold (f : Nat → Int) : (#[.int .i64 (f 0), .int .i64 (f 1), .int .i64 (f 2), .int .i64 (f 3), .int .i64 (f 4), .int .i64 (f 5), .int .i64 (f 6), .int .i64 (f 7), .int .i64 (f 8), .int .i64 (f 9), .int .i64 (f 10), .int .i64 (f 11)] : Array Value) = vcells f := by unfold vcells; rfl
@[go_sem] theorem vcells_zero : (#[.int .i64 0, .int .i64 0, .int .i64 0, .int .i64 0, .int .i64 0, .int .i64 0, .int .i64 0, .int .i64 0, .int .i64 0, .int .i64 0, .int .i64 0, .int .i64 0] : Array Value) = vcells mzero := by unfold vcells; rfl
@[go_sem] theorem vcells_set (f : Nat → Int) (j : Nat) (x : Int) (h : j < 12) : (vcells f).setIfInBounds j (.int .i64 x) = vcells (upd f j x) := by
  have h' : j = 0 ∨ j = 1 ∨ j = 2 ∨ j = 3 ∨ j = 4 ∨ j = 5 ∨ j = 6 ∨ j = 7 ∨ j = 8 ∨ j = 9 ∨ j = 10 ∨ j = 11 := by omega
  rcases h' with rfl | rfl | rfl | rfl | rfl | rfl | rfl | rfl | rfl | rfl | rfl | rfl <;> rfl
@[go_sem] theorem vcells_get (f : Nat → Int) (j : Nat) (h : j < 12) : (vcells f)[j]? = some (.int .i64 (f j)) := by
  have h' : j = 0 ∨ j = 1 ∨ j = 2 ∨ j = 3 ∨ j = 4 ∨ j = 5 ∨ j = 6 ∨ j = 7 ∨ j = 8 ∨ j = 9 ∨ j = 10 ∨ j = 11 := by omega
  rcases h' with rfl | rfl | rfl | rfl | rfl | rfl | rfl | rfl | rfl | rfl | rfl | rfl <;> rfl

@[go_sem] theorem mcells_size' (f : Nat → Int) : (mcells f).size = 16 := rfl
@[go_sem] theorem vcells_size' (f : Nat → Int) : (vcells f).size = 12 := rfl
theorem mcells_toList (f : Nat → Int) : (mcells f).toList = [.int .i64 (f 0), .int .i64 (f 1), .int .i64 (f 2), .int .i64 (f 3), .int .i64 (f 4), .int .i64 (f 5), .int .i64 (f 6), .int .i64 (f 7), .int .i64 (f 8), .int .i64 (f 9), .int .i64 (f 10), .int .i64 (f 11), .int .i64 (f 12), .int .i64 (f 13), .int .i64 (f 14), .int .i64 (f 15)] := rfl
theorem vcells_toList (f : Nat → Int) : (vcells f).toList = [.int .i64 (f 0), .int .i64 (f 1), .int .i64 (f 2), .int .i64 (f 3), .int .i64 (f 4), .int .i64 (f 5), .int .i64 (f 6), .int .i64 (f 7), .int .i64 (f 8), .int .i64 (f 9), .int .i64 (f 10), .int .i64 (f 11)] := rfl
@[go_sem] theorem mcells_fin (f g : Nat → Int) : mcells (upd (upd (upd (upd (upd (upd (upd (upd (upd (upd (upd (upd (upd (upd (upd (upd g 0 (f 0)) 1 (f 1)) 2 (f 2)) 3 (f 3)) 4 (f 4)) 5 (f 5)) 6 (f 6)) 7 (f 7)) 8 (f 8)) 9 (f 9)) 10 (f 10)) 11 (f 11)) 12 (f 12)) 13 (f 13)) 14 (f 14)) 15 (f 15)) = mcells f := by unfold mcells; rfl
@[go_sem] theorem vcells_fin (f g : Nat → Int) : vcells (upd (upd (upd (upd (upd (upd (upd (upd (upd (upd (upd (upd g 0 (f 0)) 1 (f 1)) 2 (f 2)) 3 (f 3)) 4 (f 4)) 5 (f 5)) 6 (f 6)) 7 (f 7)) 8 (f 8)) 9 (f 9)) 10 (f 10)) 11 (f 11)) = vcells f := by unfold vcells; rfl
/-- Does the block hold so many cells that may be written? -/
def isRow (w : World) (b n : Nat) : Bool := match w.heap[b]? with
  | some (.cells A _ (0, 0)) => A.size == n
  | _ => false
theorem isRow_ext {w : World} (x : Ext) (b n : Nat) (h : b < w.heap.size) : isRow (ext w x) b n = isRow w b n := by
  unfold isRow; rw [ext_heap x b h]
theorem isRow_same {w : World} (A : Array Value) (T : TypeId) (k n : Nat) (h : k = w.heap.size) : isRow (w.alloc (.cells A T)) k n = (A.size == n) := by
  subst h; unfold isRow; rw [heap_alloc_new]; rfl
theorem isRow_lt {w : World} (o : Obj) (k n : Nat) (h : k < w.heap.size) : isRow (w.alloc o) k n = isRow w k n := by
  unfold isRow; rw [heap_alloc_old (h := h)]
theorem isRow_drew {w : World} (k n : Nat) : isRow w.drew k n = isRow w k n := rfl
theorem setRow_ext {w : World} (x : Ext) (b : Nat) (A : Array Value) (h : b < w.heap.size) : (ext w x).setRow b A = ext (w.setRow b A) x := by
  simp only [World.setRow, ext]
  congr 1
  apply Array.ext_getElem?
  intro k
  rw [Array.getElem?_modify, Array.getElem?_append, Array.getElem?_append, Array.getElem?_modify]
  simp only [Array.size_modify]
  by_cases hk : b = k
  · subst hk; simp [h]
  · simp [hk]
theorem setRow_same {w : World} (A B : Array Value) (T : TypeId) (k : Nat) (h : k = w.heap.size) : (w.alloc (.cells B T)).setRow k A = w.alloc (.cells A T) := by
  subst h
  simp only [World.setRow, World.alloc]
  congr 1
  apply Array.ext_getElem?
  intro k
  rw [Array.getElem?_modify]
  by_cases hk : w.heap.size = k
  · subst hk; simp
  · simp [hk, Array.getElem?_push, Ne.symm hk]
theorem setRow_lt {w : World} (A : Array Value) (o : Obj) (k : Nat) (h : k < w.heap.size) : (w.alloc o).setRow k A = (w.setRow k A).alloc o := by
  simp only [World.setRow, World.alloc]
  congr 1
  apply Array.ext_getElem?
  intro j
  rw [Array.getElem?_modify, Array.getElem?_push, Array.getElem?_push, Array.getElem?_modify]
  simp only [Array.size_modify]
  by_cases hk : k = j
  · subst hk; simp [Nat.ne_of_lt h]
  · simp [hk]
theorem setRow_drew {w : World} (A : Array Value) (k : Nat) : w.drew.setRow k A = (w.setRow k A).drew := rfl
theorem run_store_m {P : Program} (w : World) (b : Nat) (F : Nat → Int) (h : isRow w b 16 = true) : (storeCells ⟨b, 0, none⟩ (mcells F).toList).run P w = .ok () (w.setRow b (mcells F)) := by
  unfold isRow at h
  split at h
  · rename_i A T hb
    rw [run_storeCells_at (P := P) b 0 T (mcells F).toList 0 A w hb (by have := eq_of_beq h; simp [mcells] at this ⊢; omega) (by intro v hv; simp [mcells] at hv; rcases hv with rfl | rfl | rfl | rfl | rfl | rfl | rfl | rfl | rfl | rfl | rfl | rfl | rfl | rfl | rfl | rfl <;> rfl)]
    congr 2
    have hs := eq_of_beq h
    apply Array.ext'
    simp [List.drop_of_length_le, hs, mcells]
  · simp at h
attribute [go_sem] isRow_ext isRow_same isRow_lt isRow_drew setRow_ext setRow_same setRow_lt setRow_drew run_store_m
/-- The cells of a block. -/
def rowAt (w : World) (b : Nat) : Array Value := match w.heap[b]? with
  | some (.cells A _ _) => A
  | _ => #[]
theorem rowAt_ext {w : World} (x : Ext) (b : Nat) (h : b < w.heap.size) : rowAt (ext w x) b = rowAt w b := by
  unfold rowAt; rw [ext_heap x b h]
theorem rowAt_same {w : World} (A : Array Value) (T : TypeId) (k : Nat) (h : k = w.heap.size) : rowAt (w.alloc (.cells A T)) k = A := by
  subst h; unfold rowAt; rw [heap_alloc_new]
theorem rowAt_lt {w : World} (o : Obj) (k : Nat) (h : k < w.heap.size) : rowAt (w.alloc o) k = rowAt w k := by
  unfold rowAt; rw [heap_alloc_old (h := h)]
theorem rowAt_drew {w : World} (k : Nat) : rowAt w.drew k = rowAt w k := rfl
theorem run_load_row {P : Program} (w : World) (b n : Nat) (h : isRow w b n = true) : (loadCellsFrom ⟨b, 0, none⟩ 0 n #[]).run P w = .ok (rowAt w b) w := by
  unfold isRow at h
  split at h
  · rename_i A T hb
    have hs := eq_of_beq h
    have e : rowAt w b = A := by unfold rowAt; rw [hb]
    rw [e]
    subst hs
    have := run_loadCells_list (P := P) w ⟨b, 0, none⟩ A.toList (fun j v hv => by
      have : (⟨b, 0, none⟩ : Addr).add j = ⟨b, j, none⟩ := by unfold Addr.add; split <;> simp_all
      rw [this]; simp [World.cell?, hb]; simpa using hv)
    simpa [loadCells] using this
  · simp at h
/-- What a load of a whole block gives. -/
def runRow (P : Program) (w : World) (b n : Nat) : Result (Array Value) := (loadCellsFrom ⟨b, 0, none⟩ 0 n #[]).run P w
theorem runRow_yes {P : Program} (w : World) (b n : Nat) (h : isRow w b n = true) : runRow P w b n = .ok (rowAt w b) w := run_load_row w b n h
theorem run_load_12 {P : Program} (w : World) (b : Nat) : (loadCellsFrom ⟨b, 0, none⟩ 0 12 #[]).run P w = runRow P w b 12 := rfl
theorem run_loadm_12 {P : Program} {α : Type} (g : Array Value → α) (w : World) (b : Nat) : (g <$> loadCellsFrom ⟨b, 0, none⟩ 0 12 #[]).run P w = (runRow P w b 12).andThen fun a w' => .ok (g a) w' := by
  rw [Sem.run_map]; rfl
theorem run_loadb_12 {P : Program} {α : Type} (g : Array Value → Sem α) (w : World) (b : Nat) : (loadCellsFrom ⟨b, 0, none⟩ 0 12 #[] >>= g).run P w = (runRow P w b 12).andThen fun a w' => (g a).run P w' := by
  rw [Sem.run_bind]; rfl
theorem run_load_16 {P : Program} (w : World) (b : Nat) : (loadCellsFrom ⟨b, 0, none⟩ 0 16 #[]).run P w = runRow P w b 16 := rfl
theorem run_loadm_16 {P : Program} {α : Type} (g : Array Value → α) (w : World) (b : Nat) : (g <$> loadCellsFrom ⟨b, 0, none⟩ 0 16 #[]).run P w = (runRow P w b 16).andThen fun a w' => .ok (g a) w' := by
  rw [Sem.run_map]; rfl
theorem run_loadb_16 {P : Program} {α : Type} (g : Array Value → Sem α) (w : World) (b : Nat) : (loadCellsFrom ⟨b, 0, none⟩ 0 16 #[] >>= g).run P w = (runRow P w b 16).andThen fun a w' => (g a).run P w' := by
  rw [Sem.run_bind]; rfl
theorem run_load_19 {P : Program} (w : World) (b : Nat) : (loadCellsFrom ⟨b, 0, none⟩ 0 19 #[]).run P w = runRow P w b 19 := rfl
theorem run_loadm_19 {P : Program} {α : Type} (g : Array Value → α) (w : World) (b : Nat) : (g <$> loadCellsFrom ⟨b, 0, none⟩ 0 19 #[]).run P w = (runRow P w b 19).andThen fun a w' => .ok (g a) w' := by
  rw [Sem.run_map]; rfl
theorem run_loadb_19 {P : Program} {α : Type} (g : Array Value → Sem α) (w : World) (b : Nat) : (loadCellsFrom ⟨b, 0, none⟩ 0 19 #[] >>= g).run P w = (runRow P w b 19).andThen fun a w' => (g a).run P w' := by
  rw [Sem.run_bind]; rfl
theorem run_store_v {P : Program} (w : World) (b : Nat) (F : Nat → Int) (h : isRow w b 12 = true) : (storeCells ⟨b, 0, none⟩ (vcells F).toList).run P w = .ok () (w.setRow b (vcells F)) := by
  unfold isRow at h
  split at h
  · rename_i A T hb
    rw [run_storeCells_at (P := P) b 0 T (vcells F).toList 0 A w hb (by have := eq_of_beq h; simp [vcells] at this ⊢; omega) (by intro v hv; simp [vcells] at hv; rcases hv with rfl | rfl | rfl | rfl | rfl | rfl | rfl | rfl | rfl | rfl | rfl | rfl <;> rfl)]
    congr 2
    have hs := eq_of_beq h
    apply Array.ext'
    simp [List.drop_of_length_le, hs, vcells]
  · simp at h
attribute [go_sem ↓] run_load_12 run_loadm_12 run_loadb_12 run_load_16 run_loadm_16 run_loadb_16 run_load_19 run_loadm_19 run_loadb_19
attribute [go_sem] runRow_yes rowAt_ext rowAt_same rowAt_lt rowAt_drew run_store_v
theorem toA3_c' (x y z : Int) (w : World) : Calls Try.prog 71 #[.agg #[.int .i64 x, .int .i64 y, .int .i64 z]] w fun e w' => e = .returned (.agg #[.int .i64 x, .int .i64 y, .int .i64 z]) ∧ Ex w w' := by
  go_enter Try.func71, Try.ntmps71
  go_wp2
  refine wp_loop_rounds 4 ?_
  iterate 4 (all_goals (try rw [rounds_succ]); go_wp2_with (refine region_tail 5 (by kernel_rfl) (by kernel_rfl) ?_; simp only [List.take_succ_cons, List.take_zero, List.drop_succ_cons, List.drop_zero]; (repeat (go_big_quiet_step (fail))); refine wpQuiet_nil ?_; rintro _ ⟨x, rfl⟩))
  refine bodyPost_ret (v := .agg #[.int .i64 x, .int .i64 y, .int .i64 z]) (by simp only [results, Try.results71]; go_simp) rfl ⟨rfl, by repeat (first | exact Ex.refl _ | refine Ex.ext ?_ _ | refine Ex.alloc ?_ _ | refine Ex.drew ?_)⟩
theorem nat12 {j : Nat} (h : j < 12) : j = 0 ∨ j = 1 ∨ j = 2 ∨ j = 3 ∨ j = 4 ∨ j = 5 ∨ j = 6 ∨ j = 7 ∨ j = 8 ∨ j = 9 ∨ j = 10 ∨ j = 11 := by omega
theorem vcells_eq {f g : Nat → Int} (h : ∀ j, j < 12 → f j = g j) : vcells f = vcells g := by
  unfold vcells
  rw [h 0 (by omega), h 1 (by omega), h 2 (by omega), h 3 (by omega), h 4 (by omega), h 5 (by omega), h 6 (by omega), h 7 (by omega), h 8 (by omega), h 9 (by omega), h 10 (by omega), h 11 (by omega)]
theorem toA34_c (f : Nat → Int) (w : World) : Calls Try.prog 48 #[.agg (vcells f)] w fun e w' => e = .returned (.agg (vcells f)) ∧ Ex w w' := by
  go_enter Try.func48, Try.ntmps48
  go_wp2
  refine wp_loop_rounds 5 ?_
  iterate 5 (rw [rounds_succ]; go_wp2_with (go_at_call 71; refine (toA3_c' _ _ _ _).mono ?_; rintro e w' ⟨rfl, x, rfl⟩))
  refine bodyPost_ret (v := .agg (vcells f)) (by simp only [results, Try.results48]; go_simp) rfl ⟨rfl, by repeat (first | exact Ex.refl _ | refine Ex.ext ?_ _ | refine Ex.alloc ?_ _ | refine Ex.drew ?_)⟩
theorem toMap_c (f : Nat → Int) (w : World) : Calls Try.prog 24 #[.agg (mcells f)] w fun e w' => e = .returned (.agg (mcells f)) ∧ Ex w w' := by
  go_enter Try.func24, Try.ntmps24
  go_wp2_with (first | (go_at_call 37; refine (toA4_c ⟨f 0, f 1, f 2, f 3⟩ _).mono ?_; rintro e w' ⟨rfl, x, rfl⟩) | (go_at_call 48; refine (toA34_c (fun i => f (i + 4)) _).mono ?_; unfold vcells; rintro e w' ⟨rfl, x, rfl⟩))
  refine bodyPost_ret (v := .agg (mcells f)) (by simp only [results, Try.results24]; go_simp) rfl ⟨rfl, by repeat (first | exact Ex.refl _ | refine Ex.ext ?_ _ | refine Ex.alloc ?_ _ | refine Ex.drew ?_)⟩
theorem eqA3_same' (x y z : Int) (w : World) : Calls Try.prog 80 #[.agg #[.int .i64 x, .int .i64 y, .int .i64 z], .agg #[.int .i64 x, .int .i64 y, .int .i64 z]] w fun e w' => e = .returned (.bool true) ∧ Ex w w' := by
  go_enter Try.func80, Try.ntmps80
  go_wp2
  refine wp_loop_rounds 4 ?_
  iterate 4 (rw [rounds_succ]; go_wp2_with (refine region_quiet (by kernel_rfl) (by kernel_rfl) ?_; (repeat (go_big_quiet_step (fail))); refine wpQuiet_nil ?_; rintro _ ⟨x, rfl⟩))
  go_ret
  exact ⟨rfl, by repeat (first | exact Ex.refl _ | refine Ex.ext ?_ _ | refine Ex.alloc ?_ _ | refine Ex.drew ?_)⟩
theorem eqA34_same (f : Nat → Int) (w : World) : Calls Try.prog 60 #[.agg (vcells f), .agg (vcells f)] w fun e w' => e = .returned (.bool true) ∧ Ex w w' := by
  go_enter Try.func60, Try.ntmps60
  go_wp2
  refine wp_loop_rounds 5 ?_
  iterate 5 (rw [rounds_succ]; go_wp2_with (refine region_quiet (by kernel_rfl) (by kernel_rfl) ?_; (repeat (go_big_quiet_step ((go_at_call 80; exact (eqA3_same' _ _ _ _).mono (by rintro e w' ⟨rfl, y, rfl⟩; exact ⟨rfl, by simp only [ext_ext, Ext.app_assoc]; exact ⟨_, rfl⟩⟩))))); refine wpQuiet_nil ?_; rintro _ ⟨x, rfl⟩))
  go_ret
  exact ⟨rfl, by repeat (first | exact Ex.refl _ | refine Ex.ext ?_ _ | refine Ex.alloc ?_ _ | refine Ex.drew ?_)⟩
theorem eqMap_same (f : Nat → Int) (w : World) : Calls Try.prog 31 #[.agg (mcells f), .agg (mcells f)] w fun e w' => e = .returned (.bool true) ∧ Ex w w' := by
  have hc := ceq_self ⟨f 0, f 1, f 2, f 3⟩
  have H0 := eqA4_c ⟨f 0, f 1, f 2, f 3⟩ ⟨f 0, f 1, f 2, f 3⟩
  rw [hc] at H0
  have H := Lib.hid H0
  have H1 := Lib.hid (show ∀ w, Calls Try.prog 60 #[.agg #[.int .i64 (f 4), .int .i64 (f 5), .int .i64 (f 6), .int .i64 (f 7), .int .i64 (f 8), .int .i64 (f 9), .int .i64 (f 10), .int .i64 (f 11), .int .i64 (f 12), .int .i64 (f 13), .int .i64 (f 14), .int .i64 (f 15)], .agg #[.int .i64 (f 4), .int .i64 (f 5), .int .i64 (f 6), .int .i64 (f 7), .int .i64 (f 8), .int .i64 (f 9), .int .i64 (f 10), .int .i64 (f 11), .int .i64 (f 12), .int .i64 (f 13), .int .i64 (f 14), .int .i64 (f 15)]] w fun e w' => e = .returned (.bool true) ∧ Ex w w' from fun w => eqA34_same (fun i => f (i + 4)) w)
  clear hc H0
  go_enter Try.func31, Try.ntmps31
  go_wp2_with (first | (go_at_call 42; go_loud (refine (H.out _).mono ?_; rintro e w' ⟨rfl, x, rfl⟩)) | (go_at_call 60; go_loud (refine (H1.out _).mono ?_; rintro e w' ⟨rfl, x, rfl⟩)))
  go_ret
  exact ⟨rfl, by repeat (first | exact Ex.refl _ | refine Ex.ext ?_ _ | refine Ex.alloc ?_ _ | refine Ex.drew ?_)⟩
end Go.Proofs.Ytkmnnnhnajnefaa
