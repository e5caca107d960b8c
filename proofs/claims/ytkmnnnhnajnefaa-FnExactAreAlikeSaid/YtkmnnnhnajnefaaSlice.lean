/- Slices of cards: how they read, what a call owns of them, and the walks of the laws' own helpers on them. -/
import Derived.Test.YtkmnnnhnajnefaaCard2
import Derived.Test.YtkmnnnhnajnefaaApp
namespace Go.Proofs.Ytkmnnnhnajnefaa
set_option linter.unusedSimpArgs false
set_option linter.unusedVariables false
set_option maxHeartbeats 1000000
open Go.RowKit

/-- The world with another object in a block. -/
def setBlk (w : World) (b : Nat) (o : Obj) : World := { w with heap := w.heap.setIfInBounds b o }

section
variable {w : World}
@[go_sem] theorem setBlk_size (b : Nat) (o : Obj) : (setBlk w b o).heap.size = w.heap.size := by simp [setBlk]
theorem setBlk_heap (b k : Nat) (o : Obj) : (setBlk w b o).heap[k]? = if b = k then (if b < w.heap.size then some o else none) else w.heap[k]? := by
  simp only [setBlk, Array.getElem?_setIfInBounds]
@[go_sem] theorem setBlk_cell (b i : Nat) (A : Array Value) (E : TypeId) (f : Nat × Nat) (h : b < w.heap.size) : (setBlk w b (.cells A E f)).cell? ⟨b, i, none⟩ = A[i]? := by
  simp [World.cell?, setBlk_heap, h]
theorem setBlk_cell_other (b n i : Nat) (o : Obj) (h : b ≠ n) : (setBlk w b o).cell? ⟨n, i, none⟩ = w.cell? ⟨n, i, none⟩ := by
  simp [World.cell?, setBlk_heap, h]
@[go_sem] theorem setBlk_frozen (b i : Nat) (A : Array Value) (E : TypeId) (h : b < w.heap.size) : (setBlk w b (.cells A E (0, 0))).frozen? ⟨b, i, none⟩ = false := by
  simp [World.frozen?, setBlk_heap, h]
@[go_sem] theorem setBlk_setCell (b i : Nat) (A : Array Value) (E : TypeId) (f : Nat × Nat) (v : Value) (h : b < w.heap.size) :
    (setBlk w b (.cells A E f)).setCell ⟨b, i, none⟩ v = setBlk w b (.cells (A.setIfInBounds i v) E f) := by
  simp only [World.setCell, setBlk]
  congr 1
  apply Array.ext_getElem?
  intro k
  rw [Array.getElem?_modify, Array.getElem?_setIfInBounds, Array.getElem?_setIfInBounds]
  by_cases hk : b = k
  · subst hk; simp [h]
  · simp [hk]
@[go_sem] theorem setBlk_setBlk (b : Nat) (o o' : Obj) : setBlk (setBlk w b o) b o' = setBlk w b o' := by
  simp [setBlk]
@[go_sem] theorem setBlk_drew (b : Nat) (o : Obj) : setBlk w.drew b o = (setBlk w b o).drew := rfl
theorem setBlk_self {b : Nat} {o : Obj} (h : w.heap[b]? = some o) : w = setBlk w b o := by
  obtain ⟨hlt, he⟩ := Array.getElem?_eq_some_iff.1 h
  simp only [setBlk]
  obtain ⟨hp, tp, dr, os, out⟩ := w
  congr 1
  apply Array.ext_getElem?
  intro k
  rw [Array.getElem?_setIfInBounds]
  split
  · rename_i hk; subst hk; rw [h]
  · rfl
theorem setBlk_below {B b : Nat} (o : Obj) (h : B ≤ b) : Below B w (setBlk w b o) :=
  ⟨rfl, rfl, rfl, by rw [setBlk_size]; exact Nat.le_refl _, fun k hk => by rw [setBlk_heap, if_neg (by omega)]⟩
end

/-- The cells of cards. -/
def cellsOf : List C4 → List Value
  | [] => []
  | c :: cs => .int .i64 c.a :: .int .i64 c.b :: .int .i64 c.c :: .int .i64 c.d :: cellsOf cs
theorem cellsOf_length (cs : List C4) : (cellsOf cs).length = cs.length * 4 := by
  induction cs with
  | nil => rfl
  | cons c cs ih => simp [cellsOf, ih]; omega
theorem cellsOf_append (cs ds : List C4) : cellsOf (cs ++ ds) = cellsOf cs ++ cellsOf ds := by
  induction cs with
  | nil => rfl
  | cons c cs ih => simp [cellsOf, ih]
theorem cellsOf_get (cs : List C4) : ∀ (i : Nat) (h : i < cs.length), (cellsOf cs)[i * 4]? = some (.int .i64 cs[i].a) ∧ (cellsOf cs)[i * 4 + 1]? = some (.int .i64 cs[i].b) ∧
    (cellsOf cs)[i * 4 + 2]? = some (.int .i64 cs[i].c) ∧ (cellsOf cs)[i * 4 + 3]? = some (.int .i64 cs[i].d) := by
  induction cs with
  | nil => intro i h; simp at h
  | cons c cs ih =>
    intro i h
    cases i with
    | zero => simp [cellsOf]
    | succ i =>
      have := ih i (by simpa using h)
      simp only [cellsOf, show (i + 1) * 4 = i * 4 + 1 + 1 + 1 + 1 by omega, List.getElem?_cons_succ, List.getElem_cons_succ]
      exact this

theorem Sl.below {w w' : World} {p : Option Addr} {cs : List C4} (h : Sl w p cs) (hb : Below w.heap.size w w') : Sl w' p cs := fun i hi => by
  obtain ⟨b, o, e, hl, h1, h2, h3, h4⟩ := h i hi
  exact ⟨b, o, e, Nat.lt_of_lt_of_le hl hb.size, by rw [hb.cell hl]; exact h1, by rw [hb.cell hl]; exact h2, by rw [hb.cell hl]; exact h3, by rw [hb.cell hl]; exact h4⟩
theorem Sl.ex {w w' : World} {p : Option Addr} {cs : List C4} (h : Sl w p cs) (hb : Ex w w') : Sl w' p cs := h.below hb.below

/-- A row of cards that a call owns: its block lies in 'lo' .. 'hi'. -/
structure Row (lo hi : Nat) (w : World) (p : Option Addr) (cap : Nat) (cs : List C4) : Prop where
  own : w.ownsRow lo 36 4 (.slice p cs.length cap) cs.length (cellsOf cs)
  top : ∀ a, p = some a → a.block < hi

section
variable {lo hi cap : Nat} {w w' : World} {p : Option Addr} {cs : List C4}
theorem Row.blk (h : Row lo hi w p cap cs) : (p = none ∧ cs = [] ∧ cap = 0) ∨ ∃ g cur, p = some ⟨g, 0, none⟩ ∧ lo ≤ g ∧ g < hi ∧ g < w.heap.size ∧ w.heap[g]? = some (.cells cur 36 (0, 0)) ∧ cs.length ≤ cap ∧ cap ≤ maxLen ∧ cur.size = cap * 4 ∧ cur.toList.take (cs.length * 4) = cellsOf cs := by
  rcases h.own.2 with ⟨h1, h2⟩ | ⟨g, cap', cur, h1, h2, h3, h4⟩
  · simp at h1
    exact Or.inl ⟨h1.1, List.eq_nil_of_length_eq_zero h2, h1.2.2⟩
  · simp at h1
    obtain ⟨rfl, rfl⟩ := h1
    exact Or.inr ⟨g, cur, rfl, h2, h.top _ rfl, (Array.getElem?_eq_some_iff.1 h3).1, h3, h4⟩
theorem Row.sl (h : Row lo hi w p cap cs) : Sl w p cs := fun i hi' => by
  rcases h.blk with ⟨_, rfl, _⟩ | ⟨g, cur, rfl, _, _, hg, hh, hc, hm, hs, ht⟩
  · simp at hi'
  · have key : ∀ j, j < cs.length * 4 → w.cell? ⟨g, j, none⟩ = (cellsOf cs)[j]? := fun j hj => by
      rw [← ht, List.getElem?_take, if_pos hj, Array.getElem?_toList]
      simp [World.cell?, hh]
    obtain ⟨h1, h2, h3, h4⟩ := cellsOf_get cs i hi'
    refine ⟨g, 0, rfl, hg, ?_, ?_, ?_, ?_⟩
    all_goals rw [Nat.zero_add, key _ (by omega)]
    · exact h1
    · exact h2
    · exact h3
    · exact h4
theorem Row.ex (h : Row lo hi w p cap cs) (hb : Ex w w') : Row lo hi w' p cap cs := by
  obtain ⟨x, rfl⟩ := hb
  exact ⟨own_ext h.own x, h.top⟩
theorem Row.mono {lo' hi' : Nat} (h : Row lo hi w p cap cs) (h1 : lo' ≤ lo) (h2 : hi ≤ hi') : Row lo' hi' w p cap cs :=
  ⟨own_base h.own h1, fun a e => Nat.lt_of_lt_of_le (h.top a e) h2⟩
theorem Row.other {b : Nat} {o : Obj} (h : Row lo hi w p cap cs) (hb : b < lo ∨ hi ≤ b) : Row lo hi (setBlk w b o) p cap cs := by
  refine ⟨⟨h.own.1, ?_⟩, h.top⟩
  rcases h.own.2 with h1 | ⟨g, cap', cur, h1, h2, h3, h4⟩
  · exact Or.inl h1
  · have : g < hi := h.top ⟨g, 0, none⟩ (by simp at h1; exact h1.1)
    exact Or.inr ⟨g, cap', cur, h1, h2, by rw [setBlk_heap, if_neg (by omega)]; exact h3, h4⟩
end
end Go.Proofs.Ytkmnnnhnajnefaa
