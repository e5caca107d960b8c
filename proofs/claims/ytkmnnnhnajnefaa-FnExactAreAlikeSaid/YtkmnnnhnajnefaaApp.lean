/- Rows that a call owns, and what append makes of them, in worlds that have grown. -/
import Derived.Test.YtkmnnnhnajnefaaLib
namespace Go.Proofs.Ytkmnnnhnajnefaa
set_option linter.unusedSimpArgs false
set_option linter.unusedVariables false
open Go.RowKit

/-- What is asked of a slice type: its element type, an element's cells and bytes. -/
structure RowT (P : Program) (T E size bytes : Nat) : Prop where
  under : P.underlying T = some (.slice E)
  info : ∃ i z, P.info? E = some i ∧ i.zero = some z ∧ i.size = size ∧ i.bytes = bytes ∧ z.cells.size = size
  pos : 0 < size

theorem own_ext {B E size n : Nat} {v : Value} {xs : List Value} {w : World} (h : w.ownsRow B E size v n xs) (x : Ext) : (ext w x).ownsRow B E size v n xs := by
  obtain ⟨h1, h2⟩ := h
  refine ⟨h1, ?_⟩
  rcases h2 with h2 | ⟨g, cap, cur, hv, hg, hh, r⟩
  · exact Or.inl h2
  · have hlt : g < w.heap.size := (Array.getElem?_eq_some_iff.1 hh).1
    exact Or.inr ⟨g, cap, cur, hv, hg, by rw [ext_heap x g hlt]; exact hh, r⟩
theorem own_alloc {B E size n : Nat} {v : Value} {xs : List Value} {w : World} (h : w.ownsRow B E size v n xs) (o : Obj) : (w.alloc o).ownsRow B E size v n xs := by
  rw [alloc_ext]; exact own_ext h _
theorem own_base {B B' E size n : Nat} {v : Value} {xs : List Value} {w : World} (h : w.ownsRow B E size v n xs) (hB : B' ≤ B) : w.ownsRow B' E size v n xs := by
  obtain ⟨h1, h2⟩ := h
  refine ⟨h1, ?_⟩
  rcases h2 with h2 | ⟨g, cap, cur, hv, hg, r⟩
  · exact Or.inl h2
  · exact Or.inr ⟨g, cap, cur, hv, Nat.le_trans hB hg, r⟩

/-- An empty row, laid. -/
theorem own_empty (w : World) (E size : Nat) : (w.alloc (.cells #[] E)).ownsRow w.heap.size E size (.slice (some ⟨w.heap.size, 0, none⟩) 0 0) 0 [] := by
  refine ⟨by simp, Or.inr ⟨w.heap.size, 0, #[], rfl, Nat.le_refl _, ?_, Nat.le_refl _, by simp, by simp, by simp⟩⟩
  show (w.heap.push _)[w.heap.size]? = _
  simp
theorem own_empty' (w : World) (E size n : Nat) (hn : n = w.heap.size) : (w.alloc (.cells #[] E)).ownsRow n E size (.slice (some ⟨n, 0, none⟩) 0 0) 0 [] := by
  subst hn; exact own_empty w E size
theorem own_nil (w : World) (B E size : Nat) : w.ownsRow B E size (.slice none 0 0) 0 [] := ⟨by simp, Or.inl ⟨rfl, rfl⟩⟩

theorem alloc_below {W0 W : World} (h : Ex W0 W) (o : Obj) : Below W0.heap.size W0 (W.alloc o) := (h.alloc o).below

/-- append of a row that has just been laid to a row of the call's own. -/
theorem wp_append1 {P : Program} {T E size bytes : Nat} (hT : RowT P T E size bytes) {W0 W : World} {B nW : Nat} (hB : B = W0.heap.size) (hW : nW = W.heap.size) (hE : Ex W0 W)
    {ops : Array Oper} {rest : List Oper} {o : Oper} {a : Act} {Q : Exit → Act → World → Prop} (hgd : o.guard = none) (s x : Operand)
    (ho : o.op = .call { callee := .builtin .append, args := #[s, x], argTypes := #[T, T] })
    (v : Value) (n : Nat) (xs : List Value) (hs : a.eval s = v) (hown : W.ownsRow B E size v n xs)
    (m c : Nat) (news : List Value) (hx : a.eval x = .slice (some ⟨nW, 0, none⟩) m c) (hl : news.length = m * size) (h1 : ∀ u ∈ news, u.oneCell' = true)
    (h63 : n + m ≤ maxLen) (hbytes : (n + m) * bytes ≤ 140737488355328)
    (h : ∀ v' x', (ext W0 x').ownsRow B E size v' (n + m) (xs ++ news) → wpList P ops Q rest (a.put o.dst v') (ext W0 x')) :
    wpList P ops Q (o :: rest) a (W.alloc (.cells news.toArray E)) := by
  subst hB
  subst hW
  obtain ⟨i, z, hi, hz, hsize, hby, hzs⟩ := hT.info
  refine wpList_append_own _ hgd s x T ho W0.heap.size E i z size bytes hT.under hi hz hsize hby hzs hT.pos v n xs hs (own_alloc hown _) ⟨W.heap.size, 0, none⟩ m c news hx hl (fun j u hj => ?_) h1 h63 hbytes ?_ (fun v' w' hown' hg _ => ?_)
  · have : (⟨W.heap.size, 0, none⟩ : Addr).add j = ⟨W.heap.size, j, none⟩ := by unfold Addr.add; split <;> simp_all
    rw [this, World.cell?_alloc_new]
    simpa using hj
  · have := (alloc_below hE (.cells news.toArray E)).size; omega
  · have hbel : Below W0.heap.size W0 w' := (alloc_below hE _).grown hg (alloc_below hE (.cells news.toArray E)).size (fun k hk => by
      rcases (own_alloc hown (.cells news.toArray E)).lt k hk with ⟨h1, _⟩; exact h1)
    obtain ⟨x', rfl⟩ := Ex.of_below hbel
    exact h v' x' hown'
end Go.Proofs.Ytkmnnnhnajnefaa
