/- Slices of whole numbers: how they read, what a call owns of them, and the laws' helpers on them. -/
import Derived.Test.YtnjfkgggebhelaaLawH
namespace Go.Proofs.Ytnjfkgggebhelaa
set_option linter.unusedSimpArgs false
set_option linter.unusedVariables false
set_option maxHeartbeats 1000000
set_option maxRecDepth 100000
open Go.RowKit

/-- The slice at 'p' reads as the numbers 'zs'. -/
def SlI (w : World) (p : Option Addr) (zs : List Int) : Prop := ∀ i (h : i < zs.length), ∃ b o, p = some ⟨b, o, none⟩ ∧ b < w.heap.size ∧ w.cell? ⟨b, o + i, none⟩ = some (.int .i64 zs[i])
def intVals (zs : List Int) : List Value := zs.map fun z => .int .i64 z
@[simp] theorem intVals_length (zs : List Int) : (intVals zs).length = zs.length := by simp [intVals]
theorem intVals_get (zs : List Int) (i : Nat) (h : i < zs.length) : (intVals zs)[i]? = some (.int .i64 zs[i]) := by simp [intVals, h]
theorem intVals_append (a b : List Int) : intVals (a ++ b) = intVals a ++ intVals b := by simp [intVals]
theorem SlI.below {w w' : World} {p : Option Addr} {zs : List Int} (h : SlI w p zs) (hb : Below w.heap.size w w') : SlI w' p zs := fun i hi => by
  obtain ⟨b, o, e, hl, h1⟩ := h i hi
  exact ⟨b, o, e, Nat.lt_of_lt_of_le hl hb.size, by rw [hb.cell hl]; exact h1⟩
theorem SlI.ex {w w' : World} {p : Option Addr} {zs : List Int} (h : SlI w p zs) (hb : Ex w w') : SlI w' p zs := h.below hb.below

/-- A row of numbers that a call owns. -/
structure RowI (lo hi : Nat) (w : World) (p : Option Addr) (cap : Nat) (zs : List Int) : Prop where
  own : w.ownsRow lo 3 1 (.slice p zs.length cap) zs.length (intVals zs)
  top : ∀ a, p = some a → a.block < hi

section
variable {lo hi cap : Nat} {w w' : World} {p : Option Addr} {zs : List Int}
theorem RowI.blk (h : RowI lo hi w p cap zs) : (p = none ∧ zs = [] ∧ cap = 0) ∨ ∃ g cur, p = some ⟨g, 0, none⟩ ∧ lo ≤ g ∧ g < hi ∧ g < w.heap.size ∧ w.heap[g]? = some (.cells cur 3 (0, 0)) ∧ zs.length ≤ cap ∧ cap ≤ maxLen ∧ cur.size = cap ∧ cur.toList.take zs.length = intVals zs := by
  rcases h.own.2 with ⟨h1, h2⟩ | ⟨g, cap', cur, h1, h2, h3, h4⟩
  · simp at h1
    exact Or.inl ⟨h1.1, List.eq_nil_of_length_eq_zero h2, h1.2.2⟩
  · simp at h1
    obtain ⟨rfl, rfl⟩ := h1
    refine Or.inr ⟨g, cur, rfl, h2, h.top _ rfl, (Array.getElem?_eq_some_iff.1 h3).1, h3, ?_⟩
    simpa using h4
theorem RowI.sl (h : RowI lo hi w p cap zs) : SlI w p zs := fun i hi' => by
  rcases h.blk with ⟨_, rfl, _⟩ | ⟨g, cur, rfl, _, _, hg, hh, hc, hm, hs, ht⟩
  · simp at hi'
  · refine ⟨g, 0, rfl, hg, ?_⟩
    rw [Nat.zero_add]
    have : cur[i]? = (intVals zs)[i]? := by rw [← ht, List.getElem?_take, if_pos hi', Array.getElem?_toList]
    simp only [World.cell?, hh]
    rw [intVals_get zs i hi'] at this
    simpa using this
theorem RowI.ex (h : RowI lo hi w p cap zs) (hb : Ex w w') : RowI lo hi w' p cap zs := by
  obtain ⟨x, rfl⟩ := hb
  exact ⟨own_ext h.own x, h.top⟩
theorem RowI.mono {lo' hi' : Nat} (h : RowI lo hi w p cap zs) (h1 : lo' ≤ lo) (h2 : hi ≤ hi') : RowI lo' hi' w p cap zs :=
  ⟨own_base h.own h1, fun a e => Nat.lt_of_lt_of_le (h.top a e) h2⟩
theorem RowI.nil (w : World) (lo hi : Nat) : RowI lo hi w none 0 [] := ⟨own_nil w lo _ _, fun a e => by cases e⟩
theorem RowV.rowI {g n : Nat} (h : RowV 3 1 lo w g cap n (intVals zs)) (hn : n = zs.length) : RowI lo w.heap.size w (some ⟨g, 0, none⟩) cap zs := by
  subst hn
  exact ⟨h, fun a e => by simp at e; subst e; exact h.blk.2⟩
theorem Apart.rowI {lo' hi' : Nat} (h : Apart lo hi w w') (hr : RowI lo' hi' w p cap zs) (hd : hi' ≤ lo ∨ hi ≤ lo') : RowI lo' hi' w' p cap zs := by
  refine ⟨⟨hr.own.1, ?_⟩, hr.top⟩
  rcases hr.own.2 with h1 | ⟨g, cap', cur, h1, h2, h3, h4⟩
  · exact Or.inl h1
  · have hg : g < hi' := hr.top ⟨g, 0, none⟩ (by simp at h1; exact h1.1)
    have hw : g < w.heap.size := (Array.getElem?_eq_some_iff.1 h3).1
    exact Or.inr ⟨g, cap', cur, h1, h2, by rw [h.same g hw (by omega)]; exact h3, h4⟩
end

theorem rowInt : RowT Try.prog 58 3 1 8 :=
  ⟨Try.underlying58, by
    have h : (Try.prog.info? 3).map (fun i => (i.zero, i.size, i.bytes)) = some (some (.int .i64 0), 1, 8) := by kernel_rfl
    obtain ⟨i, h1, h2, h3, h4⟩ := info_parts h
    exact ⟨i, _, h1, h2, h3, h4, rfl⟩, by decide⟩

def marksI (n : Int) (len : Nat) : List Int := (List.range len).map fun (i : Nat) => n + (i : Int)
@[simp] theorem marksI_length (n : Int) (len : Nat) : (marksI n len).length = len := by simp [marksI]
theorem marksI_get (n : Int) (len i : Nat) (h : i < (marksI n len).length) : (marksI n len)[i] = n + (i : Int) := by simp [marksI]

theorem rowI_set {lo hi cap : Nat} {w : World} {g : Nat} {cs ds : List Int} {A : Array Value} (h : RowI lo hi w (some ⟨g, 0, none⟩) cap cs) (hl : ds.length = cs.length) (hs : A.size = cap)
    (hA : ∀ j, j < ds.length → A[j]? = (intVals ds)[j]?) : RowI lo hi (setBlk w g (.cells A 3 (0, 0))) (some ⟨g, 0, none⟩) cap ds := by
  refine ⟨⟨by simp, ?_⟩, h.top⟩
  rcases h.blk with ⟨h1, h2⟩ | ⟨g', cur, h1, h2, h3, h4, h5, h6, h7, h8, h9⟩
  · simp at h1
  · simp at h1
    subst h1
    refine Or.inr ⟨g, cap, A, rfl, h2, by rw [setBlk_heap, if_pos rfl, if_pos h4], by omega, h7, by omega, ?_⟩
    apply List.ext_getElem?
    intro j
    rw [List.getElem?_take, Nat.mul_one]
    split
    · rename_i hj; rw [Array.getElem?_toList]; exact hA j hj
    · rename_i hj; rw [List.getElem?_eq_none]; simp; omega

end Go.Proofs.Ytnjfkgggebhelaa
