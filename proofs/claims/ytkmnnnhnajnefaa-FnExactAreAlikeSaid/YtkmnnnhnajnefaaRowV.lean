/- Rows that a call owns, by their block; boxes of a card; and what append keeps. -/
import Derived.Test.YtkmnnnhnajnefaaApp
import Derived.Deep.AppendLies
namespace Go.Proofs.Ytkmnnnhnajnefaa
set_option linter.unusedSimpArgs false
set_option linter.unusedVariables false
set_option maxHeartbeats 1000000
open Go.RowKit

/-- A row that a call owns: block 'g' from 'lo' on, 'n' elements whose cells are 'xs'. -/
def RowV (E size lo : Nat) (w : World) (g cap n : Nat) (xs : List Value) : Prop := w.ownsRow lo E size (.slice (some ⟨g, 0, none⟩) n cap) n xs

/-- All blocks but 'g' are as they were. -/
structure Keeps (g : Nat) (w w' : World) : Prop where
  os : w'.os = w.os
  tape : w'.tape = w.tape
  output : w'.output = w.output
  size : w.heap.size ≤ w'.heap.size
  block : ∀ k, k < w.heap.size → k ≠ g → w'.heap[k]? = w.heap[k]?

section
variable {E size lo g cap n : Nat} {xs : List Value} {w w' W0 : World}
theorem RowV.blk (h : RowV E size lo w g cap n xs) : lo ≤ g ∧ g < w.heap.size := by
  rcases h.2 with ⟨h1, _⟩ | ⟨g', cap', cur, h1, h2, h3, _⟩
  · simp at h1
  · simp at h1
    obtain ⟨rfl, rfl⟩ := h1
    exact ⟨h2, (Array.getElem?_eq_some_iff.1 h3).1⟩
theorem RowV.ex (h : RowV E size lo w g cap n xs) (k : Ex w w') : RowV E size lo w' g cap n xs := by
  obtain ⟨x, rfl⟩ := k; exact own_ext h x
theorem RowV.low {lo' : Nat} (h : RowV E size lo w g cap n xs) (k : lo' ≤ lo) : RowV E size lo' w g cap n xs := own_base h k
theorem RowV.keeps {b : Nat} (h : RowV E size lo w g cap n xs) (k : Keeps b w w') (hb : g ≠ b) : RowV E size lo w' g cap n xs := by
  have hblk := h.blk
  refine ⟨h.1, ?_⟩
  rcases h.2 with ⟨h1, _⟩ | ⟨g', cap', cur, h1, h2, h3, h4⟩
  · simp at h1
  · simp at h1
    obtain ⟨rfl, rfl⟩ := h1
    exact Or.inr ⟨g, cap, cur, rfl, h2, by rw [k.block g hblk.2 hb]; exact h3, h4⟩
theorem RowV.start (w : World) (E size : Nat) : RowV E size w.heap.size (w.alloc (.cells #[] E)) w.heap.size 0 0 [] := own_empty w E size
theorem RowV.start' (w : World) (E size n : Nat) (hn : n = w.heap.size) : RowV E size n (w.alloc (.cells #[] E)) n 0 0 [] := by subst hn; exact own_empty w E size
theorem RowV.lens (h : RowV E size lo w g cap n xs) : n ≤ cap ∧ cap ≤ maxLen ∧ xs.length = n * size := by
  rcases h.2 with ⟨h1, _⟩ | ⟨g', cap', cur, h1, h2, h3, h4, h5, _⟩
  · simp at h1
  · simp at h1
    obtain ⟨rfl, rfl⟩ := h1
    exact ⟨h4, h5, h.1⟩

theorem Ex.keeps (h : Ex w w') (g : Nat) : Keeps g w w' :=
  ⟨h.below.os, h.below.tape, h.below.output, h.below.size, fun k hk _ => h.below.block k hk⟩
theorem Keeps.trans {w'' : World} (h : Keeps g w w') (k : Keeps g w' w'') : Keeps g w w'' :=
  ⟨k.os.trans h.os, k.tape.trans h.tape, k.output.trans h.output, Nat.le_trans h.size k.size, fun i hi hg => (k.block i (Nat.lt_of_lt_of_le hi h.size) hg).trans (h.block i hi hg)⟩
theorem Keeps.ex (h : Ex W0 w) (k : Keeps g w w') (hg : W0.heap.size ≤ g) : Ex W0 w' :=
  Ex.of_below ⟨k.os.trans h.below.os, k.tape.trans h.below.tape, k.output.trans h.below.output, Nat.le_trans h.below.size k.size,
    fun i hi => (k.block i (Nat.lt_of_lt_of_le hi h.below.size) (by omega)).trans (h.below.block i hi)⟩

/-- A box that holds four numbers. -/
structure Box4 (w : World) (b : Nat) (x y z t : Int) : Prop where
  lt : b < w.heap.size
  c0 : w.cell? ⟨b, 0, none⟩ = some (.int .i64 x)
  c1 : w.cell? ⟨b, 1, none⟩ = some (.int .i64 y)
  c2 : w.cell? ⟨b, 2, none⟩ = some (.int .i64 z)
  c3 : w.cell? ⟨b, 3, none⟩ = some (.int .i64 t)
theorem Box4.keeps {b : Nat} {x y z t : Int} (h : Box4 w b x y z t) (k : Keeps g w w') (hb : b ≠ g) : Box4 w' b x y z t := by
  have e : ∀ i, w'.cell? ⟨b, i, none⟩ = w.cell? ⟨b, i, none⟩ := fun i => by simp only [World.cell?]; rw [k.block b h.lt hb]
  exact ⟨Nat.lt_of_lt_of_le h.lt k.size, by rw [e]; exact h.c0, by rw [e]; exact h.c1, by rw [e]; exact h.c2, by rw [e]; exact h.c3⟩
theorem Box4.ex {b : Nat} {x y z t : Int} (h : Box4 w b x y z t) (k : Ex w w') : Box4 w' b x y z t := h.keeps (k.keeps w.heap.size) (by have := h.lt; omega)

theorem Keeps.of_grown {row : Option Nat} (h : w.grownBy w' row) (hr : row = some g) : Keeps g w w' := by
  subst hr
  exact ⟨h.os, h.tape, h.output, h.size, fun k hk hg => h.block k hk (by simpa using hg)⟩

/-- append of a slice that has just been laid to a row of the call's own. -/
theorem wp_app {P : Program} {T bytes : Nat} (hT : RowT P T E size bytes) {W : World} {nW : Nat} (hW : nW = W.heap.size)
    {ops : Array Oper} {rest : List Oper} {o : Oper} {a : Act} {Q : Exit → Act → World → Prop} (hgd : o.guard = none) (s x : Operand)
    (ho : o.op = .call { callee := .builtin .append, args := #[s, x], argTypes := #[T, T] })
    (hs : a.eval s = .slice (some ⟨g, 0, none⟩) n cap) (hown : RowV E size lo W g cap n xs)
    (m c : Nat) (news : List Value) (hx : a.eval x = .slice (some ⟨nW, 0, none⟩) m c) (hl : news.length = m * size) (h1 : ∀ u ∈ news, u.oneCell' = true)
    (hm : 0 < m) (h63 : n + m ≤ maxLen) (hbytes : (n + m) * bytes ≤ 140737488355328)
    (h : ∀ g' cap' w', RowV E size lo w' g' cap' (n + m) (xs ++ news) → Keeps g W w' → (g' = g ∨ W.heap.size < g') → wpList P ops Q rest (a.put o.dst (.slice (some ⟨g', 0, none⟩) (n + m) cap')) w') :
    wpList P ops Q (o :: rest) a (W.alloc (.cells news.toArray E)) := by
  subst hW
  obtain ⟨i, z, hi, hz, hsize, hby, hzs⟩ := hT.info
  have hblk := hown.blk
  refine wpList_append_lies _ hgd s x T ho lo E i z size bytes hT.under hi hz hsize hby hzs hT.pos _ n xs hs (own_alloc hown _) ⟨W.heap.size, 0, none⟩ m c news hx hl (fun j u hj => ?_) h1 hm h63 hbytes ?_ (W.heap.size + 1) (by simp) ?_
  · have : (⟨W.heap.size, 0, none⟩ : Addr).add j = ⟨W.heap.size, j, none⟩ := by unfold Addr.add; split <;> simp_all
    rw [this, World.cell?_alloc_new]
    simpa using hj
  · simp; omega
  · intro g' cap' w' hown' hg hor hlt
    refine h g' cap' w' hown' (Keeps.trans (((Ex.refl W).alloc _).keeps g) (Keeps.of_grown hg rfl)) ?_
    rcases hor with h1 | h1
    · left; simpa [Value.ownBlock] using h1.symm
    · right; omega
end
theorem one1 (a : Int) : ∀ u ∈ [Value.int .i64 a], u.oneCell' = true := by intro u hu; simp at hu; subst hu; rfl
theorem one2 (a b : Int) : ∀ u ∈ [Value.int .i64 a, .int .i64 b], u.oneCell' = true := by intro u hu; simp at hu; rcases hu with rfl | rfl <;> rfl
theorem one3 (a b c : Int) : ∀ u ∈ [Value.int .i64 a, .int .i64 b, .int .i64 c], u.oneCell' = true := by intro u hu; simp at hu; rcases hu with rfl | rfl | rfl <;> rfl
theorem one4 (a b c d : Int) : ∀ u ∈ [Value.int .i64 a, .int .i64 b, .int .i64 c, .int .i64 d], u.oneCell' = true := by intro u hu; simp at hu; rcases hu with rfl | rfl | rfl | rfl <;> rfl
end Go.Proofs.Ytkmnnnhnajnefaa
