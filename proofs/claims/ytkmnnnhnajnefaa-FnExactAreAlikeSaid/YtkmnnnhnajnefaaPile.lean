/- The walks of piles. -/
import Derived.Test.YtkmnnnhnajnefaaLawH
import Derived.Test.YtkmnnnhnajnefaaPileP
import Derived.Test.YtkmnnnhnajnefaaStrA
import Derived.Deep.RegionHeld3
import Derived.Deep.Cut
namespace Go.Proofs.Ytkmnnnhnajnefaa
set_option linter.unusedSimpArgs false
set_option linter.unusedVariables false
set_option maxHeartbeats 1000000
set_option maxRecDepth 100000
open Go.RowKit

theorem rowC4 : RowT Try.prog 22 36 4 32 :=
  ⟨Try.underlying22, by
    have h : (Try.prog.info? 36).map (fun i => (i.zero, i.size, i.bytes)) = some (some (.agg #[.int .i64 0, .int .i64 0, .int .i64 0, .int .i64 0]), 4, 32) := by kernel_rfl
    obtain ⟨i, h1, h2, h3, h4⟩ := info_parts h
    exact ⟨i, _, h1, h2, h3, h4, rfl⟩, by decide⟩

theorem RowV.row {lo g cap n : Nat} {w : World} {cs : List C4} (h : RowV 36 4 lo w g cap n (cellsOf cs)) (hn : n = cs.length) : Row lo w.heap.size w (some ⟨g, 0, none⟩) cap cs := by
  subst hn
  exact ⟨h, fun a e => by simp at e; subst e; exact h.blk.2⟩

theorem RowV.open {lo g cap n : Nat} {w : World} {cs : List C4} (h : RowV 36 4 lo w g cap n (cellsOf cs)) (hn : n = cs.length) :
    ∃ A, w = setBlk w g (.cells A 36 (0, 0)) ∧ A.size = cap * 4 ∧ cs.length ≤ cap ∧ g < w.heap.size ∧ ∀ j, j < cs.length * 4 → A[j]? = (cellsOf cs)[j]? := by
  subst hn
  rcases h.2 with ⟨h1, _⟩ | ⟨g', cap', cur, h1, h2, h3, h4, h5, h6, h7⟩
  · simp at h1
  · simp at h1
    obtain ⟨rfl, rfl⟩ := h1
    refine ⟨cur, setBlk_self h3, h6, h4, h.blk.2, fun j hj => ?_⟩
    rw [← h7, List.getElem?_take, if_pos hj, Array.getElem?_toList]

theorem RowV.shut {lo g cap n : Nat} {w : World} {cs ds : List C4} {A : Array Value} (h : RowV 36 4 lo w g cap n (cellsOf cs)) (hn : n = cs.length) (hl : ds.length = cs.length) (hs : A.size = cap * 4)
    (hA : ∀ j, j < ds.length * 4 → A[j]? = (cellsOf ds)[j]?) : RowV 36 4 lo (setBlk w g (.cells A 36 (0, 0))) g cap n (cellsOf ds) := by
  subst hn
  have := (row_set (h.row rfl) hl hs hA).own
  rw [hl] at this
  exact this

theorem cells_set (cs : List C4) (c : C4) : ∀ (i : Nat), i < cs.length → cellsOf (cs.set i c) = ((((cellsOf cs).set (i * 4) (.int .i64 c.a)).set (i * 4 + 1) (.int .i64 c.b)).set (i * 4 + 2) (.int .i64 c.c)).set (i * 4 + 3) (.int .i64 c.d) := by
  induction cs with
  | nil => intro i h; simp at h
  | cons z cs ih =>
    intro i h
    cases i with
    | zero => simp [cellsOf]
    | succ i =>
      have e : (i + 1) * 4 = i * 4 + 1 + 1 + 1 + 1 := by omega
      simp only [List.set_cons_succ, cellsOf, e, ih i (by simpa using h)]

theorem set_cells {A : Array Value} {cs : List C4} {i : Nat} {c : C4} (hi : i < cs.length) (hs : cs.length * 4 ≤ A.size) (h : ∀ j, j < cs.length * 4 → A[j]? = (cellsOf cs)[j]?) :
    ∀ j, j < cs.length * 4 → ((((A.setIfInBounds (i * 4) (.int .i64 c.a)).setIfInBounds (i * 4 + 1) (.int .i64 c.b)).setIfInBounds (i * 4 + 2) (.int .i64 c.c)).setIfInBounds (i * 4 + 3) (.int .i64 c.d))[j]? = (cellsOf (cs.set i c))[j]? := by
  intro j hj
  rw [cells_set cs c i hi]
  have hl := cellsOf_length cs
  simp only [Array.getElem?_setIfInBounds, Array.size_setIfInBounds, List.getElem?_set, List.length_set, hl]
  rw [h j hj]
  have e0 : (i * 4 < A.size) = (i * 4 < cs.length * 4) := by simp only [eq_iff_iff]; omega
  have e1 : (i * 4 + 1 < A.size) = (i * 4 + 1 < cs.length * 4) := by simp only [eq_iff_iff]; omega
  have e2 : (i * 4 + 2 < A.size) = (i * 4 + 2 < cs.length * 4) := by simp only [eq_iff_iff]; omega
  have e3 : (i * 4 + 3 < A.size) = (i * 4 + 3 < cs.length * 4) := by simp only [eq_iff_iff]; omega
  simp only [e0, e1, e2, e3]

theorem ext_box (w : World) (y : Ext) (m n : Nat) (hn : n = w.heap.size + m) (c : C4) (h : y.blocks[m]? = some (.cells #[.int .i64 c.a, .int .i64 c.b, .int .i64 c.c, .int .i64 c.d] 36)) : Box4 (ext w y) n c.a c.b c.c c.d := by
  subst hn
  have hh : (ext w y).heap[w.heap.size + m]? = some (.cells #[.int .i64 c.a, .int .i64 c.b, .int .i64 c.c, .int .i64 c.d] 36) := by
    simp only [ext]
    rw [Array.getElem?_append_right (by omega), Nat.add_sub_cancel_left]
    exact h
  refine ⟨(Array.getElem?_eq_some_iff.1 hh).1, ?_, ?_, ?_, ?_⟩ <;> simp [World.cell?, hh]

theorem push2 (B : Array Obj) (a b : Obj) : ((B.push a).push b)[B.size + 1]? = some b := by
  rw [show B.size + 1 = (B.push a).size by simp]; exact Array.getElem?_push_size
theorem cells_some {A : Array Value} {n : Nat} (h : n < A.size) : ∃ u, A[n]? = some u := ⟨_, Array.getElem?_eq_getElem h⟩

theorem setBlk_keeps {w : World} {g : Nat} (o : Obj) : Keeps g w (setBlk w g o) :=
  ⟨rfl, rfl, rfl, by rw [setBlk_size]; exact Nat.le_refl _, fun k hk hg => by rw [setBlk_heap, if_neg (Ne.symm hg)]⟩

end Go.Proofs.Ytkmnnnhnajnefaa
