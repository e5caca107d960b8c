/- Rows of pairs and triples of whole numbers that a call owns, and the laws' helpers on them. -/
import Derived.Test.YtkmnnnhnajnefaaInts
namespace Go.Proofs.Ytkmnnnhnajnefaa
set_option linter.unusedSimpArgs false
set_option linter.unusedVariables false
set_option maxHeartbeats 1000000
set_option maxRecDepth 100000
open Go.RowKit

/-- A row that a call owns: 'n' elements of 'size' cells each, all numbers. -/
structure RowZ (E size lo hi : Nat) (w : World) (p : Option Addr) (cap n : Nat) (zs : List Int) : Prop where
  own : w.ownsRow lo E size (.slice p n cap) n (intVals zs)
  top : ∀ a, p = some a → a.block < hi

section
variable {E size lo hi cap n : Nat} {w w' : World} {p : Option Addr} {zs : List Int}
theorem RowZ.len (h : RowZ E size lo hi w p cap n zs) : zs.length = n * size := by
  have := h.own.1; simpa using this
theorem RowZ.blk (h : RowZ E size lo hi w p cap n zs) : (p = none ∧ n = 0 ∧ cap = 0) ∨ ∃ g cur, p = some ⟨g, 0, none⟩ ∧ lo ≤ g ∧ g < hi ∧ g < w.heap.size ∧ w.heap[g]? = some (.cells cur E (0, 0)) ∧ n ≤ cap ∧ cap ≤ maxLen ∧ cur.size = cap * size ∧ cur.toList.take (n * size) = intVals zs := by
  rcases h.own.2 with ⟨h1, h2⟩ | ⟨g, cap', cur, h1, h2, h3, h4⟩
  · simp at h1
    exact Or.inl ⟨h1.1, h2, h1.2.2⟩
  · simp at h1
    obtain ⟨rfl, rfl⟩ := h1
    exact Or.inr ⟨g, cur, rfl, h2, h.top _ rfl, (Array.getElem?_eq_some_iff.1 h3).1, h3, h4⟩
theorem RowZ.sl (h : RowZ E size lo hi w p cap n zs) : SlI w p zs := fun i hi' => by
  have hlen := h.len
  rcases h.blk with ⟨_, rfl, _⟩ | ⟨g, cur, rfl, _, _, hg, hh, hc, hm, hs, ht⟩
  · simp at hlen; subst hlen; simp at hi'
  · refine ⟨g, 0, rfl, hg, ?_⟩
    rw [Nat.zero_add]
    have : cur[i]? = (intVals zs)[i]? := by rw [← ht, List.getElem?_take, if_pos (by omega), Array.getElem?_toList]
    simp only [World.cell?, hh]
    rw [intVals_get zs i hi'] at this
    simpa using this
theorem RowZ.ex (h : RowZ E size lo hi w p cap n zs) (hb : Ex w w') : RowZ E size lo hi w' p cap n zs := by
  obtain ⟨x, rfl⟩ := hb
  exact ⟨own_ext h.own x, h.top⟩
theorem RowZ.mono {lo' hi' : Nat} (h : RowZ E size lo hi w p cap n zs) (h1 : lo' ≤ lo) (h2 : hi ≤ hi') : RowZ E size lo' hi' w p cap n zs :=
  ⟨own_base h.own h1, fun a e => Nat.lt_of_lt_of_le (h.top a e) h2⟩
theorem RowZ.nil (w : World) (lo hi : Nat) : RowZ E size lo hi w none 0 0 [] := ⟨own_nil w lo _ _, fun a e => by cases e⟩
theorem RowV.rowZ {g : Nat} (h : RowV E size lo w g cap n (intVals zs)) : RowZ E size lo w.heap.size w (some ⟨g, 0, none⟩) cap n zs :=
  ⟨h, fun a e => by simp at e; subst e; exact h.blk.2⟩
theorem Apart.rowZ {lo' hi' : Nat} (h : Apart lo hi w w') (hr : RowZ E size lo' hi' w p cap n zs) (hd : hi' ≤ lo ∨ hi ≤ lo') : RowZ E size lo' hi' w' p cap n zs := by
  refine ⟨⟨hr.own.1, ?_⟩, hr.top⟩
  rcases hr.own.2 with h1 | ⟨g, cap', cur, h1, h2, h3, h4⟩
  · exact Or.inl h1
  · have hg : g < hi' := hr.top ⟨g, 0, none⟩ (by simp at h1; exact h1.1)
    have hw : g < w.heap.size := (Array.getElem?_eq_some_iff.1 h3).1
    exact Or.inr ⟨g, cap', cur, h1, h2, by rw [h.same g hw (by omega)]; exact h3, h4⟩
theorem rowZ_set {g : Nat} {ds : List Int} {A : Array Value} (h : RowZ E size lo hi w (some ⟨g, 0, none⟩) cap n zs) (hl : ds.length = n * size) (hs : A.size = cap * size)
    (hA : ∀ j, j < ds.length → A[j]? = (intVals ds)[j]?) : RowZ E size lo hi (setBlk w g (.cells A E (0, 0))) (some ⟨g, 0, none⟩) cap n ds := by
  refine ⟨⟨by simpa using hl, ?_⟩, h.top⟩
  rcases h.blk with ⟨h1, h2⟩ | ⟨g', cur, h1, h2, h3, h4, h5, h6, h7, h8, h9⟩
  · simp at h1
  · simp at h1
    subst h1
    refine Or.inr ⟨g, cap, A, rfl, h2, by rw [setBlk_heap, if_pos rfl, if_pos h4], by omega, h7, by omega, ?_⟩
    apply List.ext_getElem?
    intro j
    rw [List.getElem?_take]
    split
    · rename_i hj; rw [Array.getElem?_toList]; exact hA j (by omega)
    · rename_i hj; rw [List.getElem?_eq_none]; simp; omega
end
theorem SlI.cell {w : World} {b o : Nat} {zs : List Int} (h : SlI w (some ⟨b, o, none⟩) zs) (i : Nat) (hi : i < zs.length) : w.cell? ⟨b, o + i, none⟩ = some (.int .i64 (zs.getD i 0)) := by
  obtain ⟨b', o', e, hb, h1⟩ := h i hi
  simp at e
  obtain ⟨rfl, rfl⟩ := e
  rw [h1, List.getD_eq_getElem?_getD, List.getElem?_eq_getElem hi]; rfl
theorem marksI_getD (n : Int) (len i : Nat) (h : i < len) : (marksI n len).getD i 0 = n + (i : Int) := by
  rw [List.getD_eq_getElem?_getD, List.getElem?_eq_getElem (by simpa using h), marksI_get]; rfl

theorem SlI.at2 {w : World} {p : Option Addr} {zs : List Int} {n k : Nat} (h : SlI w p zs) (hl : zs.length = n * 2) (hk : k < n) :
    ∃ b o, p = some ⟨b, o, none⟩ ∧ b < w.heap.size ∧ w.cell? ⟨b, o + k * 2, none⟩ = some (.int .i64 (zs.getD (k * 2) 0)) ∧ w.cell? ⟨b, o + k * 2 + 1, none⟩ = some (.int .i64 (zs.getD (k * 2 + 1) 0)) := by
  obtain ⟨b, o, e, hb, _⟩ := h (k * 2) (by omega)
  subst e
  exact ⟨b, o, rfl, hb, h.cell (k * 2) (by omega), h.cell (k * 2 + 1) (by omega)⟩

theorem setm2 {A : Array Value} {n : Int} {len k : Nat} (hk : k < len) (hs : k * 2 + 2 ≤ A.size) (h : ∀ j, j < k * 2 → A[j]? = (intVals (marksI n (len * 2)))[j]?) :
    ∀ j, j < (k + 1) * 2 → ((A.setIfInBounds (k * 2) (.int .i64 (n + 2 * k))).setIfInBounds (k * 2 + 1) (.int .i64 (n + 2 * k + 1)))[j]? = (intVals (marksI n (len * 2)))[j]? := by
  intro j hj
  simp only [Array.getElem?_setIfInBounds, Array.size_setIfInBounds]
  by_cases e1 : k * 2 + 1 = j
  · subst e1; rw [if_pos rfl, if_pos (by omega), intVals_get _ _ (by rw [marksI_length]; omega), marksI_get, show n + ((k * 2 + 1 : Nat) : Int) = n + 2 * k + 1 by omega]
  rw [if_neg e1]
  by_cases e0 : k * 2 = j
  · subst e0; rw [if_pos rfl, if_pos (by omega), intVals_get _ _ (by rw [marksI_length]; omega), marksI_get, show n + ((k * 2 : Nat) : Int) = n + 2 * k by omega]
  rw [if_neg e0]
  exact h j (by omega)

theorem SlI.at3 {w : World} {p : Option Addr} {zs : List Int} {n k : Nat} (h : SlI w p zs) (hl : zs.length = n * 3) (hk : k < n) :
    ∃ b o, p = some ⟨b, o, none⟩ ∧ b < w.heap.size ∧ w.cell? ⟨b, o + k * 3, none⟩ = some (.int .i64 (zs.getD (k * 3) 0)) ∧ w.cell? ⟨b, o + k * 3 + 1, none⟩ = some (.int .i64 (zs.getD (k * 3 + 1) 0)) ∧ w.cell? ⟨b, o + k * 3 + 2, none⟩ = some (.int .i64 (zs.getD (k * 3 + 2) 0)) := by
  obtain ⟨b, o, e, hb, _⟩ := h (k * 3) (by omega)
  subst e
  exact ⟨b, o, rfl, hb, h.cell (k * 3) (by omega), h.cell (k * 3 + 1) (by omega), h.cell (k * 3 + 2) (by omega)⟩

theorem rowA3 : RowT Try.prog 82 37 3 24 :=
  ⟨Try.underlying82, by
    have h : (Try.prog.info? 37).map (fun i => (i.zero, i.size, i.bytes)) = some (some (.agg #[.int .i64 0, .int .i64 0, .int .i64 0]), 3, 24) := by kernel_rfl
    obtain ⟨i, h1, h2, h3, h4⟩ := info_parts h
    exact ⟨i, _, h1, h2, h3, h4, rfl⟩, by decide⟩

theorem eqA3_same (x y z : Int) (w : World) : Calls Try.prog 80 #[.agg #[.int .i64 x, .int .i64 y, .int .i64 z], .agg #[.int .i64 x, .int .i64 y, .int .i64 z]] w fun e w' => e = .returned (.bool true) ∧ Ex w w' := by
  go_enter Try.func80, Try.ntmps80
  go_wp2
  refine wp_loop_rounds 4 ?_
  iterate 4 (all_goals (try rw [rounds_succ]); go_wp2_with (refine region_quiet (by kernel_rfl) (by kernel_rfl) ?_; (repeat (go_big_quiet_step (fail))); refine wpQuiet_nil ?_; rintro _ ⟨x, rfl⟩))
  go_ret
  exact ⟨rfl, by repeat (first | exact Ex.refl _ | refine Ex.ext ?_ _ | refine Ex.alloc ?_ _ | refine Ex.drew ?_)⟩

theorem setm3 {A : Array Value} {n : Int} {len k : Nat} (hk : k < len) (hs : k * 3 + 3 ≤ A.size) (h : ∀ j, j < k * 3 → A[j]? = (intVals (marksI n (len * 3)))[j]?) :
    ∀ j, j < (k + 1) * 3 → (((A.setIfInBounds (k * 3) (.int .i64 (n + 3 * k))).setIfInBounds (k * 3 + 1) (.int .i64 (n + 3 * k + 1))).setIfInBounds (k * 3 + 2) (.int .i64 (n + 3 * k + 1 + 1)))[j]? = (intVals (marksI n (len * 3)))[j]? := by
  intro j hj
  simp only [Array.getElem?_setIfInBounds, Array.size_setIfInBounds]
  by_cases e2 : k * 3 + 2 = j
  · subst e2; rw [if_pos rfl, if_pos (by omega), intVals_get _ _ (by rw [marksI_length]; omega), marksI_get, show n + ((k * 3 + 2 : Nat) : Int) = n + 3 * k + 1 + 1 by omega]
  rw [if_neg e2]
  by_cases e1 : k * 3 + 1 = j
  · subst e1; rw [if_pos rfl, if_pos (by omega), intVals_get _ _ (by rw [marksI_length]; omega), marksI_get, show n + ((k * 3 + 1 : Nat) : Int) = n + 3 * k + 1 by omega]
  rw [if_neg e1]
  by_cases e0 : k * 3 = j
  · subst e0; rw [if_pos rfl, if_pos (by omega), intVals_get _ _ (by rw [marksI_length]; omega), marksI_get, show n + ((k * 3 : Nat) : Int) = n + 3 * k by omega]
  rw [if_neg e0]
  exact h j (by omega)

end Go.Proofs.Ytkmnnnhnajnefaa
