/- Cards in order, each once: impl.sorted, spec.l2Put, spec.l2Sorted. -/
import Derived.Test.YtnjfkgggebhelaaPure
import Derived.Lib.SlicesCompact
import Derived.Test.YtnjfkgggebhelaaOwn
import Derived.Test.YtnjfkgggebhelaaRowV
import Derived.Test.YtnjfkgggebhelaaPile
import Derived.Test.YtnjfkgggebhelaaShelf
import Derived.Shelf.SlSortCmp.QuietGrown
import Derived.Laws.CopyRow
import Derived.Test.YtnjfkgggebhelaaLay
import Derived.Test.YtnjfkgggebhelaaLawG
namespace Go.Proofs.Ytnjfkgggebhelaa
set_option linter.unusedSimpArgs false
set_option linter.unusedVariables false

instance : Inhabited C4 := ⟨⟨0, 0, 0, 0⟩⟩
def Srt (l : List C4) : Prop := l.Pairwise fun a b => num a < num b
/-- One card more, at its place, once. -/
def putC : List C4 → C4 → List C4
  | [], c => [c]
  | h :: t, c => if num h < num c then h :: putC t c else if h = c then h :: t else c :: h :: t
/-- All cards of a list in order, each once. -/
def sortU (cs : List C4) : List C4 := cs.foldl putC []
theorem mem_putC (x c : C4) : ∀ l : List C4, x ∈ putC l c ↔ x ∈ l ∨ x = c
  | [] => by simp [putC]
  | h :: t => by
    unfold putC
    split
    · simp [mem_putC x c t, or_assoc]
    · split
      · rename_i e; subst e; simp; intro e; exact Or.inl e
      · simp only [List.mem_cons]; constructor
        · rintro (h1 | h1 | h1)
          · exact Or.inr h1
          · exact Or.inl (Or.inl h1)
          · exact Or.inl (Or.inr h1)
        · rintro ((h1 | h1) | h1)
          · exact Or.inr (Or.inl h1)
          · exact Or.inr (Or.inr h1)
          · exact Or.inl h1
theorem putC_srt {c : C4} (hc : Ok c) : ∀ {l : List C4}, Srt l → (∀ z ∈ l, Ok z) → Srt (putC l c)
  | [], _, _ => by simp [putC, Srt]
  | h :: t, hs, ho => by
    obtain ⟨h1, h2⟩ := List.pairwise_cons.1 hs
    unfold putC
    split
    · rename_i hlt
      refine List.pairwise_cons.2 ⟨fun z hz => ?_, putC_srt hc h2 (fun z hz => ho z (List.mem_cons_of_mem _ hz))⟩
      rcases (mem_putC z c t).1 hz with h3 | rfl
      · exact h1 z h3
      · exact hlt
    · rename_i hnl
      split
      · exact hs
      · rename_i hne
        have hlt : num c < num h := by
          have : num c ≠ num h := fun e => hne (num_inj (ho h (List.mem_cons_self)) hc e.symm)
          omega
        refine List.pairwise_cons.2 ⟨fun z hz => ?_, hs⟩
        rcases List.mem_cons.1 hz with rfl | hz
        · exact hlt
        · have := h1 z hz; omega
theorem foldl_srt : ∀ (cs l : List C4), (∀ z ∈ cs, Ok z) → Srt l → (∀ z ∈ l, Ok z) → Srt (cs.foldl putC l) ∧ ∀ x, x ∈ cs.foldl putC l ↔ x ∈ l ∨ x ∈ cs
  | [], l, _, hs, _ => ⟨hs, fun x => by simp⟩
  | c :: cs, l, hc, hs, ho => by
    have h1 := putC_srt (hc c List.mem_cons_self) hs ho
    have h2 : ∀ z ∈ putC l c, Ok z := fun z hz => by
      rcases (mem_putC z c l).1 hz with h | rfl
      · exact ho z h
      · exact hc _ List.mem_cons_self
    obtain ⟨k1, k2⟩ := foldl_srt cs (putC l c) (fun z hz => hc z (List.mem_cons_of_mem _ hz)) h1 h2
    refine ⟨k1, fun x => ?_⟩
    rw [List.foldl_cons, k2, mem_putC, List.mem_cons, or_assoc]
theorem sortU_srt {cs : List C4} (h : ∀ z ∈ cs, Ok z) : Srt (sortU cs) := (foldl_srt cs [] h List.Pairwise.nil (by simp)).1
theorem mem_sortU {cs : List C4} (h : ∀ z ∈ cs, Ok z) (x : C4) : x ∈ sortU cs ↔ x ∈ cs := by
  rw [sortU, (foldl_srt cs [] h List.Pairwise.nil (by simp)).2]; simp
theorem srt_unique : ∀ {a b : List C4}, Srt a → Srt b → (∀ x, x ∈ a ↔ x ∈ b) → a = b
  | [], [], _, _, _ => rfl
  | [], y :: b, _, _, h => by have := (h y).2 List.mem_cons_self; simp at this
  | x :: a, [], _, _, h => by have := (h x).1 List.mem_cons_self; simp at this
  | x :: a, y :: b, ha, hb, h => by
    obtain ⟨a1, a2⟩ := List.pairwise_cons.1 ha
    obtain ⟨b1, b2⟩ := List.pairwise_cons.1 hb
    have e : x = y := by
      have h1 := (h x).1 List.mem_cons_self
      have h2 := (h y).2 List.mem_cons_self
      rcases List.mem_cons.1 h1 with e | h1
      · exact e
      · rcases List.mem_cons.1 h2 with e | h2
        · exact e.symm
        · have := a1 y h2; have := b1 x h1; omega
    subst e
    congr 1
    refine srt_unique a2 b2 fun z => ?_
    constructor
    · intro hz
      rcases List.mem_cons.1 ((h z).1 (List.mem_cons_of_mem _ hz)) with rfl | h1
      · have := a1 z hz; omega
      · exact h1
    · intro hz
      rcases List.mem_cons.1 ((h z).2 (List.mem_cons_of_mem _ hz)) with rfl | h1
      · have := b1 z hz; omega
      · exact h1

theorem bang {ds : List C4} {j : Nat} (h : j < ds.length) : ds.toArray[j]! = ds[j] := by simp [h]
theorem compact_srt {ds : List C4} (hs : ds.Pairwise fun a b => num a ≤ num b) (ho : ∀ z ∈ ds, Ok z) : Srt (Lib.compact ds) ∧ ∀ x, x ∈ Lib.compact ds ↔ x ∈ ds := by
  rw [List.pairwise_iff_getElem] at hs
  constructor
  · unfold Srt Lib.compact Lib.compactUpTo
    rw [List.pairwise_map]
    have h1 : ((List.range ds.length).filter (Lib.keeps ds.toArray)).Pairwise (· < ·) := List.pairwise_lt_range.filter _
    refine List.Pairwise.imp_of_mem ?_ h1
    intro i j hi hj hij
    simp only [List.mem_filter, List.mem_range] at hi hj
    have hi1 := hi.1
    have hj1 := hj.1
    rw [bang hi.1, bang hj.1]
    have hk := hj.2
    unfold Lib.keeps at hk
    simp only [decide_eq_true_iff] at hk
    rcases hk with h0 | hk
    · omega
    · rw [bang hj.1, bang (show j - 1 < ds.length by omega)] at hk
      have hne : num ds[j] ≠ num (ds[j - 1]'(by omega)) := fun e => hk (num_inj (ho _ (List.getElem_mem _)) (ho _ (List.getElem_mem _)) e)
      have h2 := hs (j - 1) j (by omega) hj1 (by omega)
      have h3 : num ds[i] ≤ num (ds[j - 1]'(by omega)) := by
        by_cases e : i = j - 1
        · subst e; exact Int.le_refl _
        · exact hs i (j - 1) hi1 (by omega) (by omega)
      omega
  · intro x
    unfold Lib.compact Lib.compactUpTo
    simp only [List.mem_map, List.mem_filter, List.mem_range]
    constructor
    · rintro ⟨j, ⟨hj, _⟩, rfl⟩
      rw [bang hj]; exact List.getElem_mem _
    · intro hx
      obtain ⟨i, hi, rfl⟩ := List.getElem_of_mem hx
      clear hx
      induction i with
      | zero => exact ⟨0, ⟨hi, by simp [Lib.keeps]⟩, bang hi⟩
      | succ i ih =>
        by_cases e : ds[i + 1] = ds[i]
        · rw [e]; exact ih (by omega)
        · refine ⟨i + 1, ⟨hi, ?_⟩, bang hi⟩
          unfold Lib.keeps
          rw [decide_eq_true_iff, bang hi, Nat.add_sub_cancel, bang (by omega)]
          exact Or.inr e
theorem sorted_eq {cs ds : List C4} (ho : ∀ z ∈ cs, Ok z) (hp : ds.Perm cs) (hs : ds.Pairwise fun a b => num a ≤ num b) : Lib.compact ds = sortU cs := by
  have h := compact_srt hs (fun z hz => ho z (hp.mem_iff.1 hz))
  refine srt_unique h.1 (sortU_srt ho) fun x => ?_
  rw [h.2, mem_sortU ho, hp.mem_iff]
theorem sortU_len_le {cs ds : List C4} (ho : ∀ z ∈ cs, Ok z) (hp : ds.Perm cs) (hs : ds.Pairwise fun a b => num a ≤ num b) : (sortU cs).length ≤ cs.length := by
  rw [← sorted_eq ho hp hs, ← hp.length_eq]
  unfold Lib.compact Lib.compactUpTo
  rw [List.length_map]
  exact Nat.le_trans (List.length_filter_le _ _) (by simp)

/-- What a row of cards holds while it is made compact: what is kept of the first ones, then what lay there. -/
def kept (ds : List C4) (m : Nat) : List C4 := Lib.compactUpTo ds.toArray m
def half (ds : List C4) (m : Nat) : List C4 := kept ds m ++ ds.drop (kept ds m).length
theorem kept_le (ds : List C4) (m : Nat) : (kept ds m).length ≤ m := by
  unfold kept Lib.compactUpTo
  rw [List.length_map]
  exact Nat.le_trans (List.length_filter_le _ _) (by simp)
theorem half_length {ds : List C4} {m : Nat} (h : m ≤ ds.length) : (half ds m).length = ds.length := by
  have := kept_le ds m
  simp only [half, List.length_append, List.length_drop]; omega
theorem half_get {ds : List C4} {m j : Nat} (h : (kept ds m).length ≤ j) (hj : j < ds.length) (hj' : j < (half ds m).length) : (half ds m)[j] = ds[j] := by
  simp only [half]
  rw [List.getElem_append_right h, List.getElem_drop]
  congr 1; omega
theorem kept_all {ds : List C4} {m : Nat} (hm : m ≤ ds.length) (h : ∀ j, j < m → Lib.keeps ds.toArray j = true) : kept ds m = ds.take m := by
  unfold kept
  rw [Lib.compactUpTo_all _ _ h]
  apply List.ext_getElem
  · simp; omega
  · intro i h1 h2
    simp at h1 h2
    simp [show i < ds.length by omega]
theorem kept_yes {ds : List C4} {m : Nat} (hm : m < ds.length) (h0 : 0 < m) (h : ds[m] ≠ ds[m - 1]'(by omega)) : kept ds (m + 1) = kept ds m ++ [ds[m]] := by
  unfold kept
  rw [Lib.compactUpTo_succ, if_pos, bang hm]
  exact Lib.keeps_pos (by rw [bang hm, bang (by omega)]; exact h)
theorem kept_no {ds : List C4} {m : Nat} (hm : m < ds.length) (h0 : 0 < m) (h : ds[m] = ds[m - 1]'(by omega)) : kept ds (m + 1) = kept ds m := by
  unfold kept
  rw [Lib.compactUpTo_succ, if_neg, List.append_nil]
  rw [Lib.keeps_neg h0 (by rw [bang hm, bang (by omega)]; exact h)]
  simp
theorem half_yes {ds : List C4} {m : Nat} (hm : m < ds.length) (h0 : 0 < m) (h : ds[m] ≠ ds[m - 1]'(by omega)) : half ds (m + 1) = (half ds m).set (kept ds m).length ds[m] := by
  have hk := kept_le ds m
  unfold half
  rw [kept_yes hm h0 h]
  apply List.ext_getElem
  · simp; omega
  · intro i h1 h2
    rw [List.getElem_set]
    by_cases e : (kept ds m).length = i
    · subst e
      rw [if_pos rfl, List.getElem_append_left (by simp)]
      simp
    · rw [if_neg e]
      by_cases hl : i < (kept ds m).length
      · rw [List.getElem_append_left (by simp; omega), List.getElem_append_left hl, List.getElem_append_left hl]
      · rw [List.getElem_append_right (by simp; omega), List.getElem_append_right (by omega)]
        simp only [List.getElem_drop, List.length_append, List.length_cons, List.length_nil]
        congr 1; omega
end Go.Proofs.Ytnjfkgggebhelaa

namespace Go.Proofs.Ytnjfkgggebhelaa
set_option linter.unusedSimpArgs false
set_option linter.unusedVariables false
set_option maxHeartbeats 1000000
set_option maxRecDepth 100000
open Go.RowKit Go.Sort

theorem number_g (c : C4) (h : Ok c) (w : World) : Calls Try.prog 87 #[.agg #[.int .i64 c.a, .int .i64 c.b, .int .i64 c.c, .int .i64 c.d]] w fun e w' => e = .returned (.int .i64 (num c)) ∧ ∃ q os, w' = grow (w.drewN q) os := by
  obtain ⟨h1, h2, h3, h4, h5, h6, h7, h8⟩ := h
  go_enter Try.func87, Try.ntmps87
  go_wp2
  refine wp_loop_rounds 5 ?_
  iterate 5 (all_goals (try rw [rounds_succ]); go_wp2)
  go_ret
  exact ⟨ret_int (by unfold num; omega), 0, _, by rw [alloc_eq_grow]; rfl⟩
theorem number_r {c : C4} {n : Int} (h : Hid (Ok c ∧ num c = n)) (w : World) : Calls Try.prog 87 #[.agg #[.int .i64 c.a, .int .i64 c.b, .int .i64 c.c, .int .i64 c.d]] w fun e w' => e = .returned (.int .i64 n) ∧ ∃ q os, w' = grow (w.drewN q) os := by
  obtain ⟨h1, rfl⟩ := h.out
  exact number_g c h1 w
theorem drewN_grow (w : World) (os : Array Obj) (n : Nat) : grow (w.drewN n) os = (grow w os).drewN n := rfl
theorem compare_g (a b : C4) (ha : Ok a) (hb : Ok b) (w : World) : Calls Try.prog 83 #[.agg #[.int .i64 a.a, .int .i64 a.b, .int .i64 a.c, .int .i64 a.d], .agg #[.int .i64 b.a, .int .i64 b.b, .int .i64 b.c, .int .i64 b.d]] w fun e w' => e = .returned (.int .i64 (num a - num b)) ∧ ∃ q os, w' = grow (w.drewN q) os := by
  have mixed : Try.prog.follows .mixedOrders = true := by kernel_rfl
  have na := num_bd ha
  have nb := num_bd hb
  have hwr : IntKind.i64.wrap (num a - num b) = num a - num b := IntWalk.i64_in _ (by omega)
  obtain ⟨ka, ea⟩ : ∃ k, num a = k := ⟨_, rfl⟩
  obtain ⟨kb, eb⟩ : ∃ k, num b = k := ⟨_, rfl⟩
  have HA := Lib.hid (show Ok a ∧ num a = ka from ⟨ha, ea⟩)
  have HB := Lib.hid (show Ok b ∧ num b = kb from ⟨hb, eb⟩)
  rw [ea] at na hwr ⊢
  rw [eb] at nb hwr ⊢
  clear ea eb
  go_enter Try.func83, Try.ntmps83
  go_wp2
  have a0 : ((w.alloc (.cells #[.int .i64 a.a, .int .i64 a.b, .int .i64 a.c, .int .i64 a.d] 29)).alloc (.cells #[.int .i64 b.a, .int .i64 b.b, .int .i64 b.c, .int .i64 b.d] 29)).cell? ⟨w.heap.size, 0, none⟩ = some (.int .i64 a.a) := by go_simp
  have a1 : ((w.alloc (.cells #[.int .i64 a.a, .int .i64 a.b, .int .i64 a.c, .int .i64 a.d] 29)).alloc (.cells #[.int .i64 b.a, .int .i64 b.b, .int .i64 b.c, .int .i64 b.d] 29)).cell? ⟨w.heap.size, 1, none⟩ = some (.int .i64 a.b) := by go_simp
  have a2 : ((w.alloc (.cells #[.int .i64 a.a, .int .i64 a.b, .int .i64 a.c, .int .i64 a.d] 29)).alloc (.cells #[.int .i64 b.a, .int .i64 b.b, .int .i64 b.c, .int .i64 b.d] 29)).cell? ⟨w.heap.size, 2, none⟩ = some (.int .i64 a.c) := by go_simp
  have a3 : ((w.alloc (.cells #[.int .i64 a.a, .int .i64 a.b, .int .i64 a.c, .int .i64 a.d] 29)).alloc (.cells #[.int .i64 b.a, .int .i64 b.b, .int .i64 b.c, .int .i64 b.d] 29)).cell? ⟨w.heap.size, 3, none⟩ = some (.int .i64 a.d) := by go_simp
  have b0 : ((w.alloc (.cells #[.int .i64 a.a, .int .i64 a.b, .int .i64 a.c, .int .i64 a.d] 29)).alloc (.cells #[.int .i64 b.a, .int .i64 b.b, .int .i64 b.c, .int .i64 b.d] 29)).cell? ⟨w.heap.size + 1, 0, none⟩ = some (.int .i64 b.a) := by go_simp
  have b1 : ((w.alloc (.cells #[.int .i64 a.a, .int .i64 a.b, .int .i64 a.c, .int .i64 a.d] 29)).alloc (.cells #[.int .i64 b.a, .int .i64 b.b, .int .i64 b.c, .int .i64 b.d] 29)).cell? ⟨w.heap.size + 1, 1, none⟩ = some (.int .i64 b.b) := by go_simp
  have b2 : ((w.alloc (.cells #[.int .i64 a.a, .int .i64 a.b, .int .i64 a.c, .int .i64 a.d] 29)).alloc (.cells #[.int .i64 b.a, .int .i64 b.b, .int .i64 b.c, .int .i64 b.d] 29)).cell? ⟨w.heap.size + 1, 2, none⟩ = some (.int .i64 b.c) := by go_simp
  have b3 : ((w.alloc (.cells #[.int .i64 a.a, .int .i64 a.b, .int .i64 a.c, .int .i64 a.d] 29)).alloc (.cells #[.int .i64 b.a, .int .i64 b.b, .int .i64 b.c, .int .i64 b.d] 29)).cell? ⟨w.heap.size + 1, 3, none⟩ = some (.int .i64 b.d) := by go_simp
  have s0 : w.heap.size < ((w.alloc (.cells #[.int .i64 a.a, .int .i64 a.b, .int .i64 a.c, .int .i64 a.d] 29)).alloc (.cells #[.int .i64 b.a, .int .i64 b.b, .int .i64 b.c, .int .i64 b.d] 29)).heap.size := by simp; omega
  have s1 : w.heap.size + 1 < ((w.alloc (.cells #[.int .i64 a.a, .int .i64 a.b, .int .i64 a.c, .int .i64 a.d] 29)).alloc (.cells #[.int .i64 b.a, .int .i64 b.b, .int .i64 b.c, .int .i64 b.d] 29)).heap.size := by simp
  have e0 : ((w.alloc (.cells #[.int .i64 a.a, .int .i64 a.b, .int .i64 a.c, .int .i64 a.d] 29)).alloc (.cells #[.int .i64 b.a, .int .i64 b.b, .int .i64 b.c, .int .i64 b.d] 29)) = grow w #[.cells #[.int .i64 a.a, .int .i64 a.b, .int .i64 a.c, .int .i64 a.d] 29, .cells #[.int .i64 b.a, .int .i64 b.b, .int .i64 b.c, .int .i64 b.d] 29] := by rw [alloc_eq_grow, alloc_eq_grow, grow_grow]; rfl
  generalize ((w.alloc (.cells #[.int .i64 a.a, .int .i64 a.b, .int .i64 a.c, .int .i64 a.d] 29)).alloc (.cells #[.int .i64 b.a, .int .i64 b.b, .int .i64 b.c, .int .i64 b.d] 29)) = W at *
  have HW := Lib.hid e0
  clear e0
  have A0 := cell_grown s0 a0
  have A1 := cell_grown s0 a1
  have A2 := cell_grown s0 a2
  have A3 := cell_grown s0 a3
  have B0 := cell_grown s1 b0
  have B1 := cell_grown s1 b1
  have B2 := cell_grown s1 b2
  have B3 := cell_grown s1 b3
  clear a0 a1 a2 a3 b0 b1 b2 b3
  go_quiet_grown ((go_at_call 87; refine Calls.grown_of (number_r (by assumption) _)))
  go_wp2
  go_ret
  exact ⟨rfl, nq, _, by rw [HW.out, ← drewN_grow, grow_grow]⟩

/-- Cards, as the sort's contract has them. -/
abbrev OkC := { c : C4 // Ok c }
instance : Inhabited OkC := ⟨⟨⟨0, 0, 0, 0⟩, by constructor <;> simp⟩⟩
def encC (x : OkC) : List Value := [.int .i64 x.1.a, .int .i64 x.1.b, .int .i64 x.1.c, .int .i64 x.1.d]
def cfC (x y : OkC) : Int := num x.1 - num y.1
theorem ok_list : ∀ {cs : List C4}, (∀ z ∈ cs, Ok z) → ∃ d : List OkC, d.map (·.1) = cs
  | [], _ => ⟨[], rfl⟩
  | c :: cs, h => by
    obtain ⟨d, hd⟩ := ok_list (cs := cs) (fun z hz => h z (List.mem_cons_of_mem _ hz))
    exact ⟨⟨c, h c List.mem_cons_self⟩ :: d, by simp [hd]⟩
theorem flat_cells (d : Array OkC) : (flatK encC 4 d).toList = cellsOf (d.toList.map (·.1)) := by
  apply List.ext_getElem?
  intro t
  by_cases h : t < d.size * 4
  · obtain ⟨q, r, rfl, hr⟩ : ∃ q r, t = q * 4 + r ∧ r < 4 := ⟨t / 4, t % 4, by omega, by omega⟩
    have h4 : q < d.size := by omega
    have hl : q < (d.toList.map (·.1)).length := by simpa using h4
    obtain ⟨e0, e1, e2, e3⟩ := cellsOf_get (d.toList.map (·.1)) q hl
    have hL : (flatK encC 4 d).toList[q * 4 + r]? = some ((encC d[(q * 4 + r) / 4]!)[(q * 4 + r) % 4]!) := by
      simp [flatK, h]
    rw [hL, show (q * 4 + r) / 4 = q by omega, show (q * 4 + r) % 4 = r by omega, getElem!_pos d q h4]
    simp only [List.getElem_map, Array.getElem_toList] at e0 e1 e2 e3
    have hr : r = 0 ∨ r = 1 ∨ r = 2 ∨ r = 3 := by omega
    rcases hr with rfl | rfl | rfl | rfl
    · rw [Nat.add_zero, e0]; rfl
    · rw [e1]; rfl
    · rw [e2]; rfl
    · rw [e3]; rfl
  · rw [List.getElem?_eq_none (by simp; omega), List.getElem?_eq_none (by rw [cellsOf_length]; simp; omega)]
theorem RowV.cur {E size lo g cap n : Nat} {w : World} {xs : List Value} (h : RowV E size lo w g cap n xs) : ∃ cur, lo ≤ g ∧ w.heap[g]? = some (.cells cur E (0, 0)) ∧ n ≤ cap ∧ cap ≤ maxLen ∧ cur.size = cap * size ∧ cur.toList.take (n * size) = xs := by
  rcases h.2 with ⟨h1, _⟩ | ⟨g', cap', cur, h1, h2, h3, h4, h5, h6, h7⟩
  · simp at h1
  · simp at h1
    obtain ⟨rfl, rfl⟩ := h1
    exact ⟨cur, h2, h3, h4, h5, h6, h7⟩
theorem holdsK_of {lo g cap n : Nat} {w : World} {d : Array OkC} (h : RowV 29 4 lo w g cap n (cellsOf (d.toList.map (·.1)))) (hn : d.size = n) : HoldsK encC 4 w g 0 d := by
  obtain ⟨cur, h1, h2, h3, h4, h5, h6⟩ := h.cur
  intro j hj
  have hj' : j < n * 4 := by simpa [hn] using hj
  refine ⟨?_, by simp [World.frozen?, h2]⟩
  have e : (flatK encC 4 d)[j]! = (flatK encC 4 d)[j] := getElem!_pos _ j hj
  rw [e]
  have e2 : cur.toList[j]? = some ((flatK encC 4 d)[j]) := by
    have : (cur.toList.take (n * 4))[j]? = some ((flatK encC 4 d)[j]) := by
      rw [h6, ← flat_cells, Array.getElem?_toList, Array.getElem?_eq_getElem hj]
    rwa [List.getElem?_take, if_pos hj'] at this
  simp only [World.cell?, h2, Nat.zero_add, id]
  simpa using e2
theorem rowV_sorted {lo g cap n m : Nat} {w : World} {xs : List Value} {d : Array OkC} {os : Array Obj} (h : RowV 29 4 lo w g cap n xs) (hn : d.size = n) :
    RowV 29 4 lo (sortWorldK encC 4 w g 0 m d os) g cap n (cellsOf (d.toList.map (·.1))) ∧ Keeps g w (sortWorldK encC 4 w g 0 m d os) := by
  obtain ⟨cur, h1, h2, h3, h4, h5, h6⟩ := h.cur
  have hg : g < w.heap.size := (Array.getElem?_eq_some_iff.1 h2).1
  constructor
  · refine ⟨by rw [cellsOf_length]; simp [hn], .inr ⟨g, cap, putCells id 0 (flatK encC 4 d) cur, rfl, h1, ?_, h3, h4, by simpa [putCells] using h5, ?_⟩⟩
    · unfold sortWorldK putRowK
      rw [heap_grow_old _ _ (by simp [putRow, mapBlock, Sort.ahead]; exact hg)]
      simp [putRow, mapBlock, Sort.ahead, Array.getElem?_modify, h2, onCells]
    · rw [← flat_cells]
      apply List.ext_getElem?
      intro j
      rw [List.getElem?_take, Array.getElem?_toList, Array.getElem?_toList]
      by_cases hj : j < n * 4
      · have hjc : j < cur.size := by rw [h5]; omega
        have hjf : j < (flatK encC 4 d).size := by simp [hn]; omega
        rw [if_pos hj]
        simp only [putCells, Array.getElem?_mapIdx, Array.getElem?_eq_getElem hjc, Option.map_some]
        rw [if_pos ⟨by omega, by omega⟩, Array.getElem?_eq_getElem hjf, Nat.sub_zero, getElem!_pos _ j hjf]; rfl
      · rw [if_neg hj, Array.getElem?_eq_none (by simp [hn]; omega)]
  · refine ⟨rfl, rfl, rfl, ?_, fun k hk hne => ?_⟩
    · simp [sortWorldK, putRowK, grow, putRow, mapBlock, Sort.ahead]
    · unfold sortWorldK putRowK
      rw [heap_grow_old _ _ (by simp [putRow, mapBlock, Sort.ahead]; exact hk)]
      simp [putRow, mapBlock, Sort.ahead, Array.getElem?_modify, Ne.symm hne]
theorem ltC (x y : OkC) : ltOf cfC x y = decide (num x.1 < num y.1) := by
  unfold ltOf cfC
  rw [Bool.eq_iff_iff]; simp; omega
theorem swoC : SWO (ltOf cfC) where
  irrefl x := by rw [ltC]; simp
  trans x y z h1 h2 := by rw [ltC] at *; simp at *; omega
  ntrans x y z h1 h2 := by rw [ltC] at *; simp at *; omega
theorem cmpLaysC (blk off size : Nat) (w : World) : CmpLays Try.prog 83 #[] encC 4 cfC blk off size w :=
  fun _ _ _ _ x y => compare_g x.1 y.1 x.2 y.2 _
theorem sortFunc_c (cs : List C4) (g cap lo : Nat) (w : World) (hn : cs.length ≤ 100000000) (ho : ∀ z ∈ cs, Ok z) (h : RowV 29 4 lo w g cap cs.length (cellsOf cs)) :
    Calls Try.prog 82 #[.slice (some ⟨g, 0, none⟩) cs.length cap, .func (.func 83) #[] #[]] w fun e w' =>
      e = .returned (.tuple #[]) ∧ ∃ ds : List C4, ds.Perm cs ∧ (ds.Pairwise fun a b => num a ≤ num b) ∧ RowV 29 4 lo w' g cap cs.length (cellsOf ds) ∧ Keeps g w w' := by
  obtain ⟨dl, hd⟩ := ok_list ho
  have hlen : dl.length = cs.length := by rw [← hd]; simp
  have eg : ∀ args w, (callFunc 83 args).run Try.prog w = .ok (.enter 83 args) w := enters_of Try.func83 (by kernel_rfl) rfl
  have h' : RowV 29 4 lo w g cap cs.length (cellsOf (dl.toArray.toList.map (·.1))) := by simpa [hd] using h
  have hcon := Try.slices_SortFunc 4 Try.isAgg29 Try.sizeOf29 encC (fun _ => rfl) (fun x v hv => by simp [encC] at hv; rcases hv with rfl | rfl | rfl | rfl <;> rfl) cfC swoC 83 #[] g 0 cap dl.toArray w eg (cmpLaysC _ _ _ _) (holdsK_of h' (by simpa using hlen)) h.blk.2 (by simp; omega)
  rw [show dl.toArray.size = cs.length by simpa using hlen] at hcon
  refine hcon.mono ?_
  rintro e w' ⟨rfl, d', m, os, hp, hs, rfl⟩
  have hsz : d'.size = cs.length := by rw [hp.1]; simpa using hlen
  obtain ⟨r1, r2⟩ := rowV_sorted (m := m) (os := os) h hsz
  refine ⟨rfl, d'.toList.map (·.1), ?_, ?_, r1, r2⟩
  · rw [← hd]
    refine List.Perm.map _ ?_
    have := hp.2.2
    rw [← hsz] at this
    rw [Array.toList_extract, Array.toList_extract] at this
    have e1 : d'.toList.extract 0 d'.size = d'.toList := by simp [List.take_of_length_le]
    have e2 : dl.toArray.toList.extract 0 d'.size = dl := by simp [hsz, ← hlen]
    rw [e1, e2] at this
    exact this
  · rw [List.pairwise_map, List.pairwise_iff_getElem]
    intro i j hi hj hij
    simp at hi hj
    have := hs i j (by omega) hij (by omega)
    rw [ltC] at this
    simp [hi, hj] at this ⊢
    exact this
end Go.Proofs.Ytnjfkgggebhelaa

namespace Go.Proofs.Ytnjfkgggebhelaa
set_option linter.unusedSimpArgs false
set_option linter.unusedVariables false
set_option maxHeartbeats 1000000
set_option maxRecDepth 100000
open Go.RowKit

theorem zero4_run (w : World) : (zeroValue 29).run Try.prog w = .ok (.agg #[.int .i64 0, .int .i64 0, .int .i64 0, .int .i64 0]) w := by
  have h : (Try.prog.info? 29).map (fun i => (i.zero, i.size, i.bytes)) = some (some (.agg #[.int .i64 0, .int .i64 0, .int .i64 0, .int .i64 0]), 4, 32) := by kernel_rfl
  obtain ⟨i, h1, h2, h3, h4⟩ := info_parts h
  simp [zeroValue, h1, h2]
  rfl
theorem setRow_blk (w : World) (g : Nat) (A X : Array Value) (E : TypeId) (h : w.heap[g]? = some (.cells A E (0, 0))) : w.setRow g X = setBlk w g (.cells X E (0, 0)) := by
  simp only [World.setRow, setBlk]
  congr 1
  apply Array.ext_getElem?
  intro k
  rw [Array.getElem?_modify, Array.getElem?_setIfInBounds]
  by_cases hk : g = k
  · subst hk; rw [h]; simp [(Array.getElem?_eq_some_iff.1 h).1]
  · simp [hk]
def cleared (A : Array Value) (o n : Nat) : Array Value := (A.toList.take o ++ (Builtin.zeroCells #[.int .i64 0, .int .i64 0, .int .i64 0, .int .i64 0] n).toList ++ A.toList.drop (o + n * 4)).toArray
theorem cleared_size {A : Array Value} {o n : Nat} (h : o + n * 4 ≤ A.size) : (cleared A o n).size = A.size := by
  simp [cleared, Builtin.zeroCells]; omega
theorem cleared_get {A : Array Value} {o n j : Nat} (h : o + n * 4 ≤ A.size) (hj : j < o) : (cleared A o n)[j]? = A[j]? := by
  simp only [cleared, List.append_assoc, List.getElem?_toArray]
  rw [List.getElem?_append_left (by simp; omega), List.getElem?_take, if_pos hj, Array.getElem?_toList]
theorem run_clear4 (w : World) (g cap k : Nat) (A : Array Value) (n : Nat) (ty : TypeId) (hg : w.heap[g]? = some (.cells A 29 (0, 0))) (hl : k * 4 + n * 4 ≤ A.size) :
    (Builtin.clear_ #[22] ty #[.slice (some ⟨g, k * 4, none⟩) n cap]).run Try.prog w = .ok (.tuple #[]) (setBlk w g (.cells (if n = 0 then A else cleared A (k * 4) n) 29 (0, 0))) := by
  cases n with
  | zero =>
    rw [if_pos rfl, ← setBlk_self hg]
    simp [Builtin.clear_, run_underlying Try.underlying22]
  | succ m =>
    have hst := run_storeCells_at (P := Try.prog) g (k * 4) 29 (Builtin.zeroCells #[.int .i64 0, .int .i64 0, .int .i64 0, .int .i64 0] (m + 1)).toList 0 A w hg (by simp [Builtin.zeroCells]; omega) (by
      intro v hv
      simp only [Builtin.zeroCells, Array.toList_map, List.mem_map] at hv
      obtain ⟨i, _, rfl⟩ := hv
      have : i % 4 = 0 ∨ i % 4 = 1 ∨ i % 4 = 2 ∨ i % 4 = 3 := by omega
      show ((#[.int .i64 0, .int .i64 0, .int .i64 0, .int .i64 0] : Array Value)[i % 4]!).oneCell' = true
      rcases this with h | h | h | h <;> rw [h] <;> rfl)
    have hlen : (Builtin.zeroCells (#[.int .i64 0, .int .i64 0, .int .i64 0, .int .i64 0] : Array Value) (m + 1)).toList.length = (m + 1) * 4 := by simp [Builtin.zeroCells]
    rw [if_neg (by omega)]
    simp only [Nat.add_zero, hlen] at hst
    have e : (Value.agg #[.int .i64 0, .int .i64 0, .int .i64 0, .int .i64 0]).cells = (#[.int .i64 0, .int .i64 0, .int .i64 0, .int .i64 0] : Array Value) := rfl
    simp only [Builtin.clear_]
    simp [run_underlying Try.underlying22, zero4_run, e]
    simp only [Builtin.zeroCells] at hst ⊢
    simp only [cleared, Builtin.zeroCells]
    rw [← setRow_blk w g A _ _ hg]
    simp at hst ⊢
    rw [hst]
    rfl

theorem compact_all {ds : List C4} (h : ∀ j, 0 < j → j < ds.length → ds[j]? ≠ ds[j - 1]?) : Lib.compact ds = ds := by
  have e : Lib.compact ds = kept ds ds.length := rfl
  rw [e, kept_all (Nat.le_refl _), List.take_length]
  intro j hj
  by_cases h0 : j = 0
  · subst h0; simp [Lib.keeps]
  · refine Lib.keeps_pos ?_
    rw [bang hj, bang (by omega)]
    intro he
    apply h j (by omega) hj
    rw [List.getElem?_eq_getElem hj, List.getElem?_eq_getElem (by omega), he]
theorem kept_first {ds : List C4} {k : Nat} (hk : k ≤ ds.length) (h : ∀ j, 0 < j → j < k → ds[j]? ≠ ds[j - 1]?) : kept ds k = ds.take k := by
  refine kept_all hk fun j hj => ?_
  by_cases h0 : j = 0
  · subst h0; simp [Lib.keeps]
  · refine Lib.keeps_pos ?_
    rw [bang (by omega), bang (by omega)]
    intro he
    apply h j (by omega) hj
    rw [List.getElem?_eq_getElem (by omega), List.getElem?_eq_getElem (by omega), he]
theorem half_take {ds : List C4} {k : Nat} (h : kept ds k = ds.take k) (hk : k ≤ ds.length) : half ds k = ds := by
  unfold half
  rw [h, List.length_take, Nat.min_eq_left hk, List.take_append_drop]
theorem RowV.get4 {lo g cap n : Nat} {w : World} {cs : List C4} (h : RowV 29 4 lo w g cap n (cellsOf cs)) (hn : n = cs.length) {j : Nat} (hj : j < cs.length) :
    w.cell? ⟨g, j * 4, none⟩ = some (.int .i64 cs[j].a) ∧ w.cell? ⟨g, j * 4 + 1, none⟩ = some (.int .i64 cs[j].b) ∧ w.cell? ⟨g, j * 4 + 2, none⟩ = some (.int .i64 cs[j].c) ∧ w.cell? ⟨g, j * 4 + 3, none⟩ = some (.int .i64 cs[j].d) := by
  obtain ⟨A, hw, hA, hcap, hg, hc⟩ := h.open hn
  obtain ⟨g1, g2, g3, g4⟩ := cellsOf_get cs j hj
  rw [← hc _ (by omega)] at g1 g2 g3 g4
  rw [hw]
  simp only [setBlk_cell _ _ _ _ _ hg]
  exact ⟨g1, g2, g3, g4⟩

theorem compact_c (ds : List C4) (g cap lo : Nat) (w : World) (hn : ds.length ≤ 100000000) (hrow : RowV 29 4 lo w g cap ds.length (cellsOf ds)) :
    Calls Try.prog 84 #[.slice (some ⟨g, 0, none⟩) ds.length cap] w fun e w' =>
      e = .returned (.slice (some ⟨g, 0, none⟩) (Lib.compact ds).length cap) ∧ RowV 29 4 lo w' g cap (Lib.compact ds).length (cellsOf (Lib.compact ds)) ∧ Keeps g w w' := by
  have HR := Lib.hid hrow
  have hlc := hrow.lens.1
  clear hrow
  go_enter Try.func84, Try.ntmps84
  by_cases h2 : ds.length < 2
  · go_wp2
    go_ret
    have e : Lib.compact ds = ds := compact_all fun j h0 hj => by omega
    rw [e]
    exact ⟨rfl, HR.out.ex (by repeat (first | exact Ex.refl _ | refine Ex.ext ?_ _ | refine Ex.alloc ?_ _ | refine Ex.drew ?_)), Ex.keeps (by repeat (first | exact Ex.refl _ | refine Ex.ext ?_ _ | refine Ex.alloc ?_ _ | refine Ex.drew ?_)) g⟩
  · go_wp2
    go_loopw [3] (fun v wr => ∃ k : Nat, 1 ≤ k ∧ k ≤ ds.length ∧ v = .int .i64 k ∧ Ex w wr ∧ ∀ j, 0 < j → j < k → ds[j]? ≠ ds[j - 1]?) (fun v _ => ds.length - (intOf v).toNat)
    case atStart => exact ⟨1, by omega, by omega, rfl, by repeat (first | exact Ex.refl _ | refine Ex.ext ?_ _ | refine Ex.alloc ?_ _ | refine Ex.drew ?_), fun j h0 h1 => by omega⟩
    case round =>
      obtain ⟨k, hk1, hk, rfl, hE, hf⟩ := hrel
      have HE := Lib.hid hE
      have Hf := Lib.hid hf
      clear hf
      by_cases hlt : k < ds.length
      · obtain ⟨a1, a2, a3, a4⟩ := (HR.out.ex hE).get4 rfl hlt
        obtain ⟨b1, b2, b3, b4⟩ := (HR.out.ex hE).get4 rfl (show k - 1 < ds.length by omega)
        have Hz := Lib.hid (show ds[k]? = some ds[k] from List.getElem?_eq_getElem hlt)
        have Hy := Lib.hid (show ds[k - 1]? = some ds[k - 1] from List.getElem?_eq_getElem (by omega))
        have hgb := (HR.out.ex hE).blk.2
        clear hE
        generalize ds[k] = z at *
        generalize ds[k - 1] = y at *
        cases hc : ceq z y
        all_goals go_wp2_with (refine region_quiet (by kernel_rfl) (by kernel_rfl) ?_; (repeat (go_big_quiet_step (fail))); refine wpQuiet_nil ?_; rintro _ ⟨x, rfl⟩)
        · go_roundw
          case rel =>
            refine ⟨k + 1, by omega, by omega, by go_num, HE.out.trans (by repeat (first | exact Ex.refl _ | refine Ex.ext ?_ _ | refine Ex.alloc ?_ _ | refine Ex.drew ?_)), fun j h0 hj => ?_⟩
            by_cases e : j = k
            · subst e
              rw [Hz.out, Hy.out]
              intro e
              have := Option.some.inj e
              rw [(ceq_iff z y).2 this] at hc
              cases hc
            · exact Hf.out j h0 (by omega)
          case measure => simp [intOf]; omega
        · have hzy : z = y := (ceq_iff z y).1 hc
          have hkf := kept_first hk Hf.out
          have Hs : Hid ((kept ds (k + 1)).length = k ∧ half ds (k + 1) = ds) := Lib.hid (by
            have e : kept ds (k + 1) = kept ds k := kept_no hlt (by omega) (by
              have h1 := Hz.out
              have h2 := Hy.out
              rw [List.getElem?_eq_getElem hlt] at h1
              rw [List.getElem?_eq_getElem (by omega)] at h2
              rw [Option.some.inj h1, Option.some.inj h2, hzy])
            refine ⟨by rw [e, hkf, List.length_take]; omega, ?_⟩
            have := half_take hkf hk
            unfold half at this ⊢
            rw [e]
            exact this)
          clear a1 a2 a3 a4 b1 b2 b3 b4 hc hkf
          subst hzy
          obtain ⟨w0, hw0⟩ : ∃ w0 : World, w0 = ext wr x := ⟨_, rfl⟩
          have HE0 := Lib.hid (show Ex w w0 by rw [hw0]; exact HE.out.ext _)
          have HR0 := Lib.hid (HR.out.ex HE0.out)
          rw [← hw0]
          clear hw0
          go_wp2
          go_loopw [3, 5] (fun u v wr => ∃ i q : Nat, 1 ≤ i ∧ k + i ≤ ds.length ∧ v = .int .i64 i ∧ u = .int .i64 q ∧ (kept ds (k + i)).length = q ∧ q < k + i ∧ RowV 29 4 lo wr g cap ds.length (cellsOf (half ds (k + i))) ∧ Keeps g w wr) (fun _ v _ => ds.length - (intOf v).toNat)
          case atStart => exact ⟨1, k, by omega, by omega, rfl, rfl, Hs.out.1, by omega, by rw [Hs.out.2]; exact HR0.out, HE0.out.keeps g⟩
          case round =>
            obtain ⟨i, q, hi1, hi, rfl, rfl, hq, hqk, hrow, hkeep⟩ := hrel
            have HK := Lib.hid hkeep
            have HQ := Lib.hid hq
            have HR1 := Lib.hid hrow
            have hl : (half ds (k + i)).length = ds.length := half_length hi
            have hgb := hrow.blk.2
            clear hkeep hq
            by_cases hlt2 : k + i < ds.length
            · have f1 := half_get (ds := ds) (m := k + i) (j := k + i) (by rw [HQ.out]; omega) hlt2 (by omega)
              have f2 := half_get (ds := ds) (m := k + i) (j := k + i - 1) (by rw [HQ.out]; omega) (by omega) (by omega)
              obtain ⟨a1, a2, a3, a4⟩ := hrow.get4 hl.symm (show k + i < (half ds (k + i)).length by omega)
              obtain ⟨b1, b2, b3, b4⟩ := hrow.get4 hl.symm (show k + i - 1 < (half ds (k + i)).length by omega)
              rw [f1] at a1 a2 a3 a4
              rw [f2] at b1 b2 b3 b4
              have hz2 : ds[k + i]? = some ds[k + i] := List.getElem?_eq_getElem hlt2
              have hy2 : ds[k + i - 1]? = some (ds[k + i - 1]'(by omega)) := List.getElem?_eq_getElem (by omega)
              have Hyes := Lib.hid (fun (h : ds[k + i] ≠ ds[k + i - 1]'(by omega)) => And.intro (kept_yes hlt2 (by omega) h) (half_yes hlt2 (by omega) h))
              have Hno := Lib.hid (fun (h : ds[k + i] = ds[k + i - 1]'(by omega)) => And.intro (kept_no hlt2 (by omega) h) (show half ds (k + i + 1) = half ds (k + i) by unfold half; rw [kept_no hlt2 (by omega) h]))
              clear hz2 hy2 f1 f2 hrow
              rw [Nat.add_mul] at a1 a2 a3 a4
              rw [show (k + i - 1) * 4 = k * 4 + (i - 1) * 4 by omega] at b1 b2 b3 b4
              generalize ds[k + i] = z2 at *
              generalize ds[k + i - 1] = y2 at *
              cases hc2 : ceq z2 y2
              · go_upto_region 12 with (refine region_quiet (by kernel_rfl) (by kernel_rfl) ?_; (repeat (go_big_quiet_step (fail))); refine wpQuiet_nil ?_; rintro _ ⟨x, rfl⟩)
                have hne : z2 ≠ y2 := fun e => by rw [(ceq_iff z2 y2).2 e] at hc2; cases hc2
                obtain ⟨hy1, hy2⟩ := Hyes.out hne
                have Hy1 := Lib.hid hy1
                have Hy2 := Lib.hid hy2
                clear hy1 hy2 hc2 hne Hyes Hno b1 b2 b3 b4
                obtain ⟨w1, hw1⟩ : ∃ w1 : World, w1 = ext wr x := ⟨_, rfl⟩
                have HE1 := Lib.hid (show Ex wr w1 by rw [hw1]; exact by repeat (first | exact Ex.refl _ | refine Ex.ext ?_ _ | refine Ex.alloc ?_ _ | refine Ex.drew ?_))
                rw [← hw1]
                obtain ⟨A, hw, hA, hcp, hg, hc⟩ := (HR1.out.ex HE1.out).open hl.symm
                have e0 : w1.cell? ⟨g, k * 4 + i * 4, none⟩ = some (.int .i64 z2.a) := by rw [hw1]; go_simp
                have e1 : w1.cell? ⟨g, k * 4 + i * 4 + 1, none⟩ = some (.int .i64 z2.b) := by rw [hw1]; go_simp
                have e2 : w1.cell? ⟨g, k * 4 + i * 4 + 2, none⟩ = some (.int .i64 z2.c) := by rw [hw1]; go_simp
                have e3 : w1.cell? ⟨g, k * 4 + i * 4 + 3, none⟩ = some (.int .i64 z2.d) := by rw [hw1]; go_simp
                clear a1 a2 a3 a4 hgb hw1
                rw [hw] at e0 e1 e2 e3 ⊢
                rw [setBlk_cell _ _ _ _ _ hg] at e0 e1 e2 e3
                have HA := Lib.hid hA
                have Hc := Lib.hid hc
                have ts : (half ds (k + i)).length * 4 ≤ A.size := by rw [hA]; omega
                have HA2 := Lib.hid ts
                have g0 : q * 4 < A.size := by omega
                have g1 : q * 4 + 1 < A.size := by omega
                have g2 : q * 4 + 2 < A.size := by omega
                have g3 : q * 4 + 3 < A.size := by omega
                obtain ⟨u0, k0⟩ := cells_some g0
                obtain ⟨u1, k1⟩ := cells_some g1
                obtain ⟨u2, k2⟩ := cells_some g2
                obtain ⟨u3, k3⟩ := cells_some g3
                clear hA hc hw
                go_wp2
                go_roundw
                case rel =>
                  have hgw := (HR1.out.ex HE1.out).blk
                  have e1' := set_cells (i := q) (c := z2) (by omega) HA2.out Hc.out
                  (try ((repeat apply Exists.intro); refine ⟨?_, rfl⟩))
                  refine ⟨i + 1, q + 1, by omega, by omega, by go_num, by go_num, ?_, by omega, ?_, ?_⟩
                  · rw [← Nat.add_assoc, Hy1.out, List.length_append, HQ.out]; rfl
                  · rw [← Nat.add_assoc, Hy2.out, HQ.out]
                    refine RowV.ex (w := setBlk w1 g (.cells ((((A.setIfInBounds (q * 4) (.int .i64 z2.a)).setIfInBounds (q * 4 + 1) (.int .i64 z2.b)).setIfInBounds (q * 4 + 2) (.int .i64 z2.c)).setIfInBounds (q * 4 + 3) (.int .i64 z2.d)) 29 (0, 0))) ?_ (by exact by repeat (first | exact Ex.refl _ | refine Ex.ext ?_ _ | refine Ex.alloc ?_ _ | refine Ex.drew ?_))
                    refine (HR1.out.ex HE1.out).shut hl.symm (by simp) (by simp only [Array.size_setIfInBounds]; exact HA.out) ?_
                    intro jj hjj
                    exact e1' jj (by simp only [List.length_set] at hjj ⊢; exact hjj)
                  · refine HK.out.trans ((HE1.out.keeps g).trans ?_)
                    refine Keeps.trans (w' := setBlk w1 g (.cells ((((A.setIfInBounds (q * 4) (.int .i64 z2.a)).setIfInBounds (q * 4 + 1) (.int .i64 z2.b)).setIfInBounds (q * 4 + 2) (.int .i64 z2.c)).setIfInBounds (q * 4 + 3) (.int .i64 z2.d)) 29 (0, 0))) (setBlk_keeps _) ?_
                    exact Ex.keeps (by exact by repeat (first | exact Ex.refl _ | refine Ex.ext ?_ _ | refine Ex.alloc ?_ _ | refine Ex.drew ?_)) g
                case measure => simp [intOf]; omega
              · go_wp2_with (refine region_quiet (by kernel_rfl) (by kernel_rfl) ?_; (repeat (go_big_quiet_step (fail))); refine wpQuiet_nil ?_; rintro _ ⟨x, rfl⟩)
                go_roundw
                case rel =>
                  have hze : z2 = y2 := (ceq_iff z2 y2).1 hc2
                  obtain ⟨hy1, hy2⟩ := Hno.out hze
                  (try ((repeat apply Exists.intro); refine ⟨?_, rfl⟩))
                  refine ⟨i + 1, q, by omega, by omega, by go_num, rfl, ?_, by omega, ?_, ?_⟩
                  · rw [← Nat.add_assoc, hy1]; exact HQ.out
                  · rw [← Nat.add_assoc, hy2]
                    exact HR1.out.ex (by repeat (first | exact Ex.refl _ | refine Ex.ext ?_ _ | refine Ex.alloc ?_ _ | refine Ex.drew ?_))
                  · exact HK.out.trans (Ex.keeps (by repeat (first | exact Ex.refl _ | refine Ex.ext ?_ _ | refine Ex.alloc ?_ _ | refine Ex.drew ?_)) g)
                case measure => simp [intOf]; omega
            · have hie : k + i = ds.length := by omega
              obtain ⟨A, hw, hA, hcp, hg, hc⟩ := HR1.out.open hl.symm
              have hqc : q < cap := by omega
              have hqn : (cap = q) = False := eq_false (by omega)
              clear hrow
              have hw' : wr.heap[g]? = some (.cells A 29 (0, 0)) := by rw [hw, setBlk_heap, if_pos rfl, if_pos hg]
              have HCL := fun c ty => run_clear4 wr g c q A (ds.length - q) ty hw' (by omega)
              simp only [show ¬ ds.length - q = 0 by omega, if_false] at HCL
              have HA := Lib.hid hA
              have Hc := Lib.hid hc
              have Hie := Lib.hid hie
              clear hA hc hw hw' hie
              go_wp2
              go_ret
              have hcl : (kept ds (k + i)).length = (Lib.compact ds).length := by rw [Hie.out]; rfl
              have hqe : (Lib.compact ds).length = q := by rw [← hcl]; exact HQ.out
              have hkd : kept ds (k + i) = Lib.compact ds := by rw [Hie.out]; rfl
              have hov : q * 4 + (ds.length - q) * 4 ≤ A.size := by rw [HA.out]; omega
              refine ⟨by rw [hqe]; exact rfl, ?_, (HK.out.trans (setBlk_keeps _)).trans (Ex.keeps (by repeat (first | exact Ex.refl _ | refine Ex.ext ?_ _ | refine Ex.alloc ?_ _ | refine Ex.drew ?_)) g)⟩
              refine RowV.ex (w := setBlk wr g (.cells (cleared A (q * 4) (ds.length - q)) 29 (0, 0))) ?_ (by exact by repeat (first | exact Ex.refl _ | refine Ex.ext ?_ _ | refine Ex.alloc ?_ _ | refine Ex.drew ?_))
              have hlo := HR1.out.blk.1
              have hmx := HR1.out.lens.2.1
              refine ⟨by rw [cellsOf_length], .inr ⟨g, cap, cleared A (q * 4) (ds.length - q), by rw [hqe], hlo, by rw [setBlk_heap, if_pos rfl, if_pos hg], by omega, hmx, ?_, ?_⟩⟩
              · rw [cleared_size hov]; exact HA.out
              · apply List.ext_getElem?
                intro j
                rw [List.getElem?_take, Array.getElem?_toList]
                by_cases hj : j < (Lib.compact ds).length * 4
                · rw [if_pos hj]
                  have e1 : (cleared A (q * 4) (ds.length - q))[j]? = A[j]? := cleared_get hov (by omega)
                  rw [e1, Hc.out j (by omega)]
                  unfold half
                  rw [cellsOf_append, List.getElem?_append_left (by rw [cellsOf_length, hcl]; exact hj), hkd]
                · rw [if_neg hj, List.getElem?_eq_none (by rw [cellsOf_length]; omega)]
      · have : k = ds.length := by omega
        subst this
        clear hE
        go_wp2
        go_ret
        rw [compact_all Hf.out]
        exact ⟨rfl, HR.out.ex HE.out, HE.out.keeps g⟩
end Go.Proofs.Ytnjfkgggebhelaa

namespace Go.Proofs.Ytnjfkgggebhelaa
set_option linter.unusedSimpArgs false
set_option linter.unusedVariables false
set_option maxHeartbeats 1000000
set_option maxRecDepth 100000
open Go.RowKit

theorem clone_v {cs : List C4} {b o n cap : Nat} {w : World} (hl : cs.length = n) (hn : n ≤ 1000000000) (hz : Sl w (some ⟨b, o, none⟩) cs) :
    Calls Try.prog 51 #[.slice (some ⟨b, o, none⟩) n cap] w fun e w' => ∃ g cap', e = .returned (.slice (some ⟨g, 0, none⟩) n cap') ∧ Ex w w' ∧ RowV 29 4 w.heap.size w' g cap' n (cellsOf cs) := by
  subst hl
  have Hz := Lib.hid hz
  clear hz
  have hnil : ∀ w : World, (binOp .eql 22 (.slice (some ⟨b, o, none⟩) cs.length cap) (.slice none 0 0)).run Try.prog w = .ok (.bool false) w := fun w => Lib.run_eql_slice_some_nil w _ _ _ Try.underlying22
  have own0 := own_empty w 29 4
  go_enter Try.func51, Try.ntmps51
  go_wp2_with (at_builtin; refine list_apps (W0 := w) rfl (by repeat (first | exact Ex.refl _ | refine Ex.ext ?_ _ | refine Ex.alloc ?_ _ | refine Ex.drew ?_)) rfl _ _ rfl (.slice (some ⟨w.heap.size, 0, none⟩) 0 0) 0 [] rfl own0 cs.length cs rfl (Or.inr ⟨b, o, cap, rfl, Hz.out.ex (by repeat (first | exact Ex.refl _ | refine Ex.ext ?_ _ | refine Ex.alloc ?_ _ | refine Ex.drew ?_))⟩) (by omega) ?_; intro p cap' w' hown hp hnn hE; simp only [Nat.zero_add, List.nil_append] at hown ⊢)
  go_ret
  cases p with
  | none => have := (hnn rfl).1; simp at this
  | some a =>
    rcases hown.2 with ⟨h1, h2⟩ | ⟨g, cap2, cur, h1, h2, h3, h4⟩
    · simp at h1
    · simp at h1
      obtain ⟨rfl, rfl⟩ := h1
      exact ⟨g, cap', rfl, hE, hown⟩

theorem sorted_c (cs : List C4) (b o cap : Nat) (w : World) (hn : cs.length ≤ 100000000) (ho : ∀ z ∈ cs, Ok z) (hz : Sl w (some ⟨b, o, none⟩) cs) :
    Calls Try.prog 43 #[.slice (some ⟨b, o, none⟩) cs.length cap] w fun e w' => ∃ g cap', e = .returned (.slice (some ⟨g, 0, none⟩) (sortU cs).length cap') ∧ Ex w w' ∧ RowV 29 4 w.heap.size w' g cap' (sortU cs).length (cellsOf (sortU cs)) := by
  have Hz := Lib.hid hz
  have Ho := Lib.hid ho
  clear hz ho
  go_enter Try.func43, Try.ntmps43
  go_upto_region 2 with (go_at_call 51; refine (clone_v rfl (by omega) Hz.out).mono ?_; rintro e w1 ⟨g, c1, rfl, hE1, hr1⟩)
  have HE1 := Lib.hid hE1
  have HR1 := Lib.hid hr1
  clear hE1 hr1
  go_upto_region 3 with (go_at_call 82; refine (sortFunc_c cs g c1 _ _ hn Ho.out HR1.out).mono ?_; rintro e w2 ⟨rfl, ds, hp, hs, hr2, hk2⟩)
  have HP := Lib.hid hp
  have HS := Lib.hid hs
  have HR2 := Lib.hid hr2
  have HK2 := Lib.hid hk2
  have hlen := hp.length_eq
  have hsu := sorted_eq Ho.out hp hs
  have hsl := sortU_len_le Ho.out hp hs
  clear hp hs hr2 hk2
  rw [← hsu] at hsl
  have HSU := Lib.hid hsu
  clear hsu
  have hn' : ds.length ≤ 100000000 := by omega
  have hsl' : (Lib.compact ds).length ≤ ds.length := by omega
  have HR2' := Lib.hid (show RowV 29 4 w.heap.size w2 g c1 ds.length (cellsOf ds) by rw [hlen]; exact HR2.out)
  clear hsl
  go_wp2_with (first | (go_at_call 84; rw [← hlen]; refine (compact_c ds g c1 _ _ hn' HR2'.out).mono ?_; rintro e w3 ⟨rfl, hr3, hk3⟩) |
    (go_at_call 51; refine (clone_v rfl (by omega) (hr3.row rfl).sl).mono ?_; rintro e w4 ⟨g4, c4, rfl, hE4, hr4⟩))
  go_ret
  rw [← HSU.out]
  have hE3 : Ex w w3 := Keeps.ex HE1.out (HK2.out.trans hk3) HR1.out.blk.1
  exact ⟨g4, c4, rfl, hE3.trans hE4, hr4.low hE3.below.size⟩
end Go.Proofs.Ytnjfkgggebhelaa

namespace Go.Proofs.Ytnjfkgggebhelaa
set_option linter.unusedSimpArgs false
set_option linter.unusedVariables false
set_option maxHeartbeats 1000000
set_option maxRecDepth 100000
open Go.RowKit

theorem putC_skip {c : C4} : ∀ (cs : List C4) (k : Nat), k ≤ cs.length → (∀ j (h : j < cs.length), j < k → num cs[j] < num c) → putC cs c = cs.take k ++ putC (cs.drop k) c
  | _, 0, _, _ => by simp
  | [], k + 1, h, _ => by simp at h
  | z :: cs, k + 1, h, hf => by
    have h0 := hf 0 (by simp) (by omega)
    simp only [List.getElem_cons_zero] at h0
    rw [putC, if_pos h0, putC_skip cs k (by simpa using h) (fun j hj hk => by have := hf (j + 1) (by simpa using hj) (by omega); simpa using this)]
    simp
theorem putC_len (cs : List C4) (c : C4) : (putC cs c).length ≤ cs.length + 1 := by
  induction cs with
  | nil => simp [putC]
  | cons z cs ih =>
    unfold putC
    split
    · simp; omega
    · split <;> simp
theorem sl_one {W : World} {b : Nat} {c : C4} (hb : b < W.heap.size) (h0 : W.cell? ⟨b, 0, none⟩ = some (.int .i64 c.a)) (h1 : W.cell? ⟨b, 1, none⟩ = some (.int .i64 c.b)) (h2 : W.cell? ⟨b, 2, none⟩ = some (.int .i64 c.c)) (h3 : W.cell? ⟨b, 3, none⟩ = some (.int .i64 c.d)) : Sl W (some ⟨b, 0, none⟩) [c] := by
  intro i hi
  simp at hi
  subst hi
  exact ⟨b, 0, rfl, hb, h0, h1, h2, h3⟩
theorem own_some {W : World} {lo E size n cap : Nat} {p : Option Addr} {xs : List Value} (h : W.ownsRow lo E size (.slice p n cap) n xs) (hp : p ≠ none) : ∃ g, p = some ⟨g, 0, none⟩ ∧ RowV E size lo W g cap n xs := by
  rcases h.2 with ⟨h1, _⟩ | ⟨g, cap', cur, h1, h2⟩
  · simp at h1; exact absurd h1.1 hp
  · simp at h1
    obtain ⟨rfl, rfl⟩ := h1
    exact ⟨g, rfl, h⟩
theorem l2Less_r {a c : C4} {r : Bool} (h : decide (num a < num c) = r) (ha : Ok a) (hc : Ok c) (w : World) : Calls Try.prog 85 #[.agg #[.int .i64 a.a, .int .i64 a.b, .int .i64 a.c, .int .i64 a.d], .agg #[.int .i64 c.a, .int .i64 c.b, .int .i64 c.c, .int .i64 c.d]] w fun e w' => e = .returned (.bool r) ∧ Ex w w' := by
  rw [← h]; exact l2Less_c a c ha hc w

theorem own_exx {w w' : World} {lo E size n : Nat} {v : Value} {xs : List Value} (h : w.ownsRow lo E size v n xs) (k : Ex w w') : w'.ownsRow lo E size v n xs := by
  obtain ⟨x, rfl⟩ := k; exact own_ext h x
theorem l2Own_n2 {cs : List C4} {b o n cap : Nat} {w : World} (hl : cs.length = n) (hn : n ≤ 1000000000) (hz : Sl w (some ⟨b, o, none⟩) cs) :
    Calls Try.prog 53 #[.slice (some ⟨b, o, none⟩) n cap] w fun e w' => ∃ g cap', e = .returned (.slice (some ⟨g, 0, none⟩) n cap') ∧ Ex w w' ∧ Row w.heap.size w'.heap.size w' (some ⟨g, 0, none⟩) cap' cs := by
  subst hl; exact l2Own_s hn (Or.inr ⟨b, o, cap, rfl, hz⟩)

theorem l2Put_c (cs : List C4) (c : C4) (b o cap : Nat) (w : World) (hn : cs.length ≤ 100000000) (hcap : cs.length ≤ cap) (ho : ∀ z ∈ cs, Ok z) (hc : Ok c) (hz : Sl w (some ⟨b, o, none⟩) cs) :
    Calls Try.prog 47 #[.slice (some ⟨b, o, none⟩) cs.length cap, .agg #[.int .i64 c.a, .int .i64 c.b, .int .i64 c.c, .int .i64 c.d]] w fun e w' => ∃ g cap', e = .returned (.slice (some ⟨g, 0, none⟩) (putC cs c).length cap') ∧ Ex w w' ∧ RowV 29 4 w.heap.size w' g cap' (putC cs c).length (cellsOf (putC cs c)) := by
  have Hz := Lib.hid hz
  have Ho := Lib.hid ho
  have Hc := Lib.hid hc
  clear hz ho hc
  go_enter Try.func47, Try.ntmps47
  go_wp2
  go_loopw [5] (fun v wr => ∃ k : Nat, k ≤ cs.length ∧ v = .int .i64 k ∧ Ex (w.alloc (.cells #[.int .i64 c.a, .int .i64 c.b, .int .i64 c.c, .int .i64 c.d] 29)) wr ∧ ∀ j (h : j < cs.length), j < k → num cs[j] < num c) (fun v _ => cs.length - (intOf v).toNat)
  case atStart => exact ⟨0, Nat.zero_le _, rfl, Ex.refl _, fun j _ h => by omega⟩
  case round =>
    obtain ⟨k, hk, rfl, ⟨x, rfl⟩, hf⟩ := hrel
    have Hf := Lib.hid hf
    clear hf
    by_cases hlt : k < cs.length
    · obtain ⟨b', o', e', hb, h1, h2, h3, h4⟩ := Hz.out k hlt
      simp at e'
      obtain ⟨rfl, rfl⟩ := e'
      have hzo := Ho.out cs[k] (List.getElem_mem _)
      have Hd := Lib.hid (List.drop_eq_getElem_cons hlt)
      have Hg := Lib.hid (List.getElem?_eq_getElem hlt)
      have Hsk := Lib.hid (putC_skip cs k hk Hf.out)
      have hkz : (k : Int) < (cs.length : Int) := by omega
      generalize cs[k] = z at *
      cases hr : decide (num z < num c)
      · have Hnr := Lib.hid (show ¬ num z < num c from of_decide_eq_false hr)
        cases hq : ceq z c
        · have Hnq := Lib.hid (show ¬ z = c from fun e => by rw [(ceq_iff z c).2 e] at hq; cases hq)
          have HP := Lib.hid (show putC cs c = cs.take k ++ [c] ++ cs.drop k by rw [Hsk.out, Hd.out, putC, if_neg Hnr.out, if_neg Hnq.out, List.append_assoc]; rfl)
          go_upto_region 6 with (first | (refine region_quiet (by kernel_rfl) (by kernel_rfl) ?_; (repeat (go_big_quiet_step ((go_at_call 85; exact (l2Less_r hr hzo Hc.out _).mono (by rintro e w' ⟨rfl, y, rfl⟩; first | exact ⟨rfl, _, ext_ext _ _⟩ | exact ⟨rfl, _, by rw [ext_ext, Ext.app_assoc]⟩ | exact ⟨rfl, _, by rw [ext_ext, Ext.app_assoc, Ext.app_assoc]⟩ | exact ⟨rfl, _, by rw [ext_ext, Ext.app_assoc, Ext.app_assoc, Ext.app_assoc]⟩))))); refine wpQuiet_nil ?_; rintro _ ⟨x, rfl⟩) | (refine region_quiet (by kernel_rfl) (by kernel_rfl) ?_; (repeat (go_big_quiet_step (fail))); refine wpQuiet_nil ?_; rintro _ ⟨x, rfl⟩))
          have hcapk : k ≤ cap := by omega
          have hoff : ∃ off, (if cap = k then (some ⟨b, o, none⟩ : Option Addr) else some ⟨b, o + k * 4, none⟩) = some ⟨b, off, none⟩ ∧ Sl w (some ⟨b, off, none⟩) (cs.drop k) := by
            by_cases hce : cap = k
            · refine ⟨o, by rw [if_pos hce], fun j hj => ?_⟩
              rw [List.length_drop] at hj
              omega
            · exact ⟨_, by rw [if_neg hce], Hz.out.drop' k hk⟩
          obtain ⟨off, hif, hzd⟩ := hoff
          have Hzf := Lib.hid hzd
          clear hzd
          have hlt' : (cs.take k).length = k := by rw [List.length_take]; omega
          have hld : (cs.drop k).length = cs.length - k := by rw [List.length_drop]
          have hi1 : (k : Int) ≤ (cap : Int) := by omega
          have hi3 : (k : Int) ≤ (cs.length : Int) := by omega
          have hi7 : (cs.length : Int) ≤ (cap : Int) := by omega
          (try simp only [ext_ext])
          generalize hw0 : (ext (w.alloc (.cells #[.int .i64 c.a, .int .i64 c.b, .int .i64 c.c, .int .i64 c.d] 29)) _) = w0
          have hE0 : Ex (w.alloc (.cells #[.int .i64 c.a, .int .i64 c.b, .int .i64 c.c, .int .i64 c.d] 29)) w0 := ⟨_, hw0.symm⟩
          clear hw0
          have hB4 := Box4.new w c.a c.b c.c c.d
          have hEB : Ex w (w.alloc (.cells #[.int .i64 c.a, .int .i64 c.b, .int .i64 c.c, .int .i64 c.d] 29)) := by repeat (first | exact Ex.refl _ | refine Ex.ext ?_ _ | refine Ex.alloc ?_ _ | refine Ex.drew ?_)
          generalize (w.alloc (.cells #[.int .i64 c.a, .int .i64 c.b, .int .i64 c.c, .int .i64 c.d] 29)) = wB at *
          obtain ⟨b0, c0, cc1, c2, c3⟩ := hB4.ex hE0
          have hEw : Ex w w0 := Ex.trans hEB hE0
          go_region_held3 (fun w' => w'.cell? ⟨w.heap.size, 0, none⟩ = some (.int .i64 c.a) ∧ w'.cell? ⟨w.heap.size, 1, none⟩ = some (.int .i64 c.b) ∧ w'.cell? ⟨w.heap.size, 2, none⟩ = some (.int .i64 c.c) ∧ w'.cell? ⟨w.heap.size, 3, none⟩ = some (.int .i64 c.d))
            (first | go_keep | (have hq4 := hB4.ex (by assumption); exact ⟨hq4.c0, hq4.c1, hq4.c2, hq4.c3⟩))
            (first | (go_at_call 53; refine (l2Own_n2 hlt' (by omega) ((Hz.out.take k).ex (hEw.trans (by exact by repeat (first | exact Ex.refl _ | refine Ex.ext ?_ _ | refine Ex.alloc ?_ _ | refine Ex.drew ?_))))).mono ?_; rintro e w1 ⟨g1, c1, rfl, hx, hr1⟩; have hown := own_base hr1.own (Ex.below (hE0.trans (by exact by repeat (first | exact Ex.refl _ | refine Ex.ext ?_ _ | refine Ex.alloc ?_ _ | refine Ex.drew ?_)))).size; have hE := Ex.trans (hE0.trans (by exact by repeat (first | exact Ex.refl _ | refine Ex.ext ?_ _ | refine Ex.alloc ?_ _ | refine Ex.drew ?_))) hx) |
              (refine step_appsN (W0 := wB) rfl (hE.trans (by exact by repeat (first | exact Ex.refl _ | refine Ex.ext ?_ _ | refine Ex.alloc ?_ _ | refine Ex.drew ?_))) (by rfl) _ _ (by rfl) (.slice (some ⟨g1, 0, none⟩) k c1) k (cs.take k) (by rfl) (by rw [hlt'] at hown; exact own_exx hown (by exact by repeat (first | exact Ex.refl _ | refine Ex.ext ?_ _ | refine Ex.alloc ?_ _ | refine Ex.drew ?_))) 1 [c] (by rfl) (Or.inr ⟨_, 0, 1, rfl, by first | (refine sl_one ?_ ?_ ?_ ?_ ?_ <;> (go_simp; done)) | (refine Sl.ex ?_ (hx.trans (by exact by repeat (first | exact Ex.refl _ | refine Ex.ext ?_ _ | refine Ex.alloc ?_ _ | refine Ex.drew ?_))); refine sl_one ?_ ?_ ?_ ?_ ?_ <;> (go_simp; done))⟩) (by omega) ?_; intro p2 c2 w2 hown2 hp2 hnn2 hE2) |
              (refine step_appsN (W0 := wB) rfl (hE2.trans (by exact by repeat (first | exact Ex.refl _ | refine Ex.ext ?_ _ | refine Ex.alloc ?_ _ | refine Ex.drew ?_))) (by rfl) _ _ (by rfl) _ (k + 1) (cs.take k ++ [c]) (by rfl) (own_exx hown2 (by exact by repeat (first | exact Ex.refl _ | refine Ex.ext ?_ _ | refine Ex.alloc ?_ _ | refine Ex.drew ?_))) (cs.length - k) (cs.drop k) hld (Or.inr ⟨b, off, cap - k, by rw [hld]; rfl, Hzf.out.ex (hEB.trans (hE2.trans (by exact by repeat (first | exact Ex.refl _ | refine Ex.ext ?_ _ | refine Ex.alloc ?_ _ | refine Ex.drew ?_))))⟩) (by omega) ?_; intro p3 c3 w3 hown3 hp3 hnn3 hE3))
          all_goals
            go_wp2
            go_ret
            have hne : p3 ≠ none := fun e => by have := (hnn3 e).1; simp at this
            have hl3 : (cs.take k ++ [c] ++ cs.drop k).length = k + 1 + (cs.length - k) := by simp only [List.length_append, hlt', hld, List.length_cons, List.length_nil]
            rw [HP.out, hl3]
            obtain ⟨g3, rfl, hr3⟩ := own_some hown3 hne
            exact ⟨g3, c3, rfl, hEB.trans hE3, hr3.low hEB.below.size⟩
        · have Hzc := Lib.hid (show z = c from (ceq_iff z c).1 hq)
          go_upto_region 5 with (first | (refine region_quiet (by kernel_rfl) (by kernel_rfl) ?_; (repeat (go_big_quiet_step ((go_at_call 85; exact (l2Less_r hr hzo Hc.out _).mono (by rintro e w' ⟨rfl, y, rfl⟩; first | exact ⟨rfl, _, ext_ext _ _⟩ | exact ⟨rfl, _, by rw [ext_ext, Ext.app_assoc]⟩ | exact ⟨rfl, _, by rw [ext_ext, Ext.app_assoc, Ext.app_assoc]⟩ | exact ⟨rfl, _, by rw [ext_ext, Ext.app_assoc, Ext.app_assoc, Ext.app_assoc]⟩))))); refine wpQuiet_nil ?_; rintro _ ⟨x, rfl⟩) | (refine region_quiet (by kernel_rfl) (by kernel_rfl) ?_; (repeat (go_big_quiet_step (fail))); refine wpQuiet_nil ?_; rintro _ ⟨x, rfl⟩))
          go_wp2_with ((go_at_call 53; refine (l2Own_n2 rfl (by omega) (Hz.out.ex (by exact by repeat (first | exact Ex.refl _ | refine Ex.ext ?_ _ | refine Ex.alloc ?_ _ | refine Ex.drew ?_)))).mono ?_; rintro e w1 ⟨g1, c1, rfl, hx, hr1⟩))
          go_ret
          have hE1 := Ex.trans (show Ex w _ by exact by repeat (first | exact Ex.refl _ | refine Ex.ext ?_ _ | refine Ex.alloc ?_ _ | refine Ex.drew ?_)) hx
          have e : putC cs c = cs := by
            rw [Hsk.out, Hd.out, putC, if_neg (show ¬ num z < num c by have := Hnr.out; omega), if_pos Hzc.out, ← Hd.out, List.take_append_drop]
          rw [e]
          exact ⟨g1, c1, rfl, hE1, own_base hr1.own (Ex.below (show Ex w _ by exact by repeat (first | exact Ex.refl _ | refine Ex.ext ?_ _ | refine Ex.alloc ?_ _ | refine Ex.drew ?_))).size⟩
      · go_wp2_with (refine region_quiet (by kernel_rfl) (by kernel_rfl) ?_; (repeat (go_big_quiet_step ((go_at_call 85; exact (l2Less_r hr hzo Hc.out _).mono (by rintro e w' ⟨rfl, y, rfl⟩; first | exact ⟨rfl, _, ext_ext _ _⟩ | exact ⟨rfl, _, by rw [ext_ext, Ext.app_assoc]⟩ | exact ⟨rfl, _, by rw [ext_ext, Ext.app_assoc, Ext.app_assoc]⟩ | exact ⟨rfl, _, by rw [ext_ext, Ext.app_assoc, Ext.app_assoc, Ext.app_assoc]⟩))))); refine wpQuiet_nil ?_; rintro _ ⟨x, rfl⟩)
        go_roundw
        case rel =>
          refine ⟨k + 1, by omega, by go_num, by repeat (first | exact Ex.refl _ | refine Ex.ext ?_ _ | refine Ex.alloc ?_ _ | refine Ex.drew ?_), fun j hj hjk => ?_⟩
          by_cases e : j = k
          · subst e
            have := Hg.out
            rw [List.getElem?_eq_getElem hj] at this
            rw [Option.some.inj this]
            exact of_decide_eq_true hr
          · exact Hf.out j hj (by omega)
        case measure => simp [intOf]; omega
    · have Hkn := Lib.hid (show k = cs.length by omega)
      have hnlt : ¬ ((k : Int) < (cs.length : Int)) := by omega
      have Hsk := Lib.hid (putC_skip cs k hk Hf.out)
      have HP := Lib.hid (show putC cs c = cs.take k ++ [c] ++ cs.drop k by rw [Hsk.out, show cs.drop k = [] by rw [Hkn.out, List.drop_length]]; simp [putC])
      go_upto_region 6 with (first | (refine region_quiet (by kernel_rfl) (by kernel_rfl) ?_; (repeat (go_big_quiet_step (fail))); refine wpQuiet_nil ?_; rintro _ ⟨x, rfl⟩))
      have hcapk : k ≤ cap := by omega
      have hoff : ∃ off, (if cap = k then (some ⟨b, o, none⟩ : Option Addr) else some ⟨b, o + k * 4, none⟩) = some ⟨b, off, none⟩ ∧ Sl w (some ⟨b, off, none⟩) (cs.drop k) := by
        by_cases hce : cap = k
        · refine ⟨o, by rw [if_pos hce], fun j hj => ?_⟩
          rw [List.length_drop] at hj
          omega
        · exact ⟨_, by rw [if_neg hce], Hz.out.drop' k hk⟩
      obtain ⟨off, hif, hzd⟩ := hoff
      have Hzf := Lib.hid hzd
      clear hzd
      have hlt' : (cs.take k).length = k := by rw [List.length_take]; omega
      have hld : (cs.drop k).length = cs.length - k := by rw [List.length_drop]
      have hi1 : (k : Int) ≤ (cap : Int) := by omega
      have hi3 : (k : Int) ≤ (cs.length : Int) := by omega
      have hi7 : (cs.length : Int) ≤ (cap : Int) := by omega
      (try simp only [ext_ext])
      generalize hw0 : (ext (w.alloc (.cells #[.int .i64 c.a, .int .i64 c.b, .int .i64 c.c, .int .i64 c.d] 29)) _) = w0
      have hE0 : Ex (w.alloc (.cells #[.int .i64 c.a, .int .i64 c.b, .int .i64 c.c, .int .i64 c.d] 29)) w0 := ⟨_, hw0.symm⟩
      clear hw0
      have hB4 := Box4.new w c.a c.b c.c c.d
      have hEB : Ex w (w.alloc (.cells #[.int .i64 c.a, .int .i64 c.b, .int .i64 c.c, .int .i64 c.d] 29)) := by repeat (first | exact Ex.refl _ | refine Ex.ext ?_ _ | refine Ex.alloc ?_ _ | refine Ex.drew ?_)
      generalize (w.alloc (.cells #[.int .i64 c.a, .int .i64 c.b, .int .i64 c.c, .int .i64 c.d] 29)) = wB at *
      obtain ⟨b0, c0, cc1, c2, c3⟩ := hB4.ex hE0
      have hEw : Ex w w0 := Ex.trans hEB hE0
      go_region_held3 (fun w' => w'.cell? ⟨w.heap.size, 0, none⟩ = some (.int .i64 c.a) ∧ w'.cell? ⟨w.heap.size, 1, none⟩ = some (.int .i64 c.b) ∧ w'.cell? ⟨w.heap.size, 2, none⟩ = some (.int .i64 c.c) ∧ w'.cell? ⟨w.heap.size, 3, none⟩ = some (.int .i64 c.d))
        (first | go_keep | (have hq4 := hB4.ex (by assumption); exact ⟨hq4.c0, hq4.c1, hq4.c2, hq4.c3⟩))
        (first | (go_at_call 53; refine (l2Own_n2 hlt' (by omega) ((Hz.out.take k).ex (hEw.trans (by exact by repeat (first | exact Ex.refl _ | refine Ex.ext ?_ _ | refine Ex.alloc ?_ _ | refine Ex.drew ?_))))).mono ?_; rintro e w1 ⟨g1, c1, rfl, hx, hr1⟩; have hown := own_base hr1.own (Ex.below (hE0.trans (by exact by repeat (first | exact Ex.refl _ | refine Ex.ext ?_ _ | refine Ex.alloc ?_ _ | refine Ex.drew ?_)))).size; have hE := Ex.trans (hE0.trans (by exact by repeat (first | exact Ex.refl _ | refine Ex.ext ?_ _ | refine Ex.alloc ?_ _ | refine Ex.drew ?_))) hx) |
          (refine step_appsN (W0 := wB) rfl (hE.trans (by exact by repeat (first | exact Ex.refl _ | refine Ex.ext ?_ _ | refine Ex.alloc ?_ _ | refine Ex.drew ?_))) (by rfl) _ _ (by rfl) (.slice (some ⟨g1, 0, none⟩) k c1) k (cs.take k) (by rfl) (by rw [hlt'] at hown; exact own_exx hown (by exact by repeat (first | exact Ex.refl _ | refine Ex.ext ?_ _ | refine Ex.alloc ?_ _ | refine Ex.drew ?_))) 1 [c] (by rfl) (Or.inr ⟨_, 0, 1, rfl, by first | (refine sl_one ?_ ?_ ?_ ?_ ?_ <;> (go_simp; done)) | (refine Sl.ex ?_ (hx.trans (by exact by repeat (first | exact Ex.refl _ | refine Ex.ext ?_ _ | refine Ex.alloc ?_ _ | refine Ex.drew ?_))); refine sl_one ?_ ?_ ?_ ?_ ?_ <;> (go_simp; done))⟩) (by omega) ?_; intro p2 c2 w2 hown2 hp2 hnn2 hE2) |
          (refine step_appsN (W0 := wB) rfl (hE2.trans (by exact by repeat (first | exact Ex.refl _ | refine Ex.ext ?_ _ | refine Ex.alloc ?_ _ | refine Ex.drew ?_))) (by rfl) _ _ (by rfl) _ (k + 1) (cs.take k ++ [c]) (by rfl) (own_exx hown2 (by exact by repeat (first | exact Ex.refl _ | refine Ex.ext ?_ _ | refine Ex.alloc ?_ _ | refine Ex.drew ?_))) (cs.length - k) (cs.drop k) hld (Or.inr ⟨b, off, cap - k, by rw [hld]; rfl, Hzf.out.ex (hEB.trans (hE2.trans (by exact by repeat (first | exact Ex.refl _ | refine Ex.ext ?_ _ | refine Ex.alloc ?_ _ | refine Ex.drew ?_))))⟩) (by omega) ?_; intro p3 c3 w3 hown3 hp3 hnn3 hE3))
      all_goals
        go_wp2
        go_ret
        have hne : p3 ≠ none := fun e => by have := (hnn3 e).1; simp at this
        have hl3 : (cs.take k ++ [c] ++ cs.drop k).length = k + 1 + (cs.length - k) := by simp only [List.length_append, hlt', hld, List.length_cons, List.length_nil]
        rw [HP.out, hl3]
        obtain ⟨g3, rfl, hr3⟩ := own_some hown3 hne
        exact ⟨g3, c3, rfl, hEB.trans hE3, hr3.low hEB.below.size⟩
end Go.Proofs.Ytnjfkgggebhelaa

namespace Go.Proofs.Ytnjfkgggebhelaa
set_option linter.unusedSimpArgs false
set_option linter.unusedVariables false
set_option maxHeartbeats 1000000
set_option maxRecDepth 100000
open Go.RowKit

theorem sortU_snoc (cs : List C4) (c : C4) : sortU (cs ++ [c]) = putC (sortU cs) c := by simp [sortU]
theorem foldl_putC_len (cs : List C4) : ∀ l : List C4, (cs.foldl putC l).length ≤ l.length + cs.length := by
  induction cs with
  | nil => intro l; simp
  | cons c cs ih => intro l; have h1 := ih (putC l c); have h2 := putC_len l c; simp only [List.foldl_cons, List.length_cons]; omega
theorem sortU_len (cs : List C4) : (sortU cs).length ≤ cs.length := by have := foldl_putC_len cs []; simpa [sortU] using this
theorem takeC_snoc {cs : List C4} {k : Nat} (h : k < cs.length) : cs.take (k + 1) = cs.take k ++ [cs[k]] := by rw [List.take_succ_eq_append_getElem h]
theorem foldl_putC_ok (cs : List C4) : ∀ l : List C4, (∀ z ∈ cs, Ok z) → (∀ z ∈ l, Ok z) → ∀ z ∈ cs.foldl putC l, Ok z := by
  induction cs with
  | nil => intro l _ h; exact h
  | cons c cs ih =>
    intro l hc hl
    refine ih (putC l c) (fun z hz => hc z (List.mem_cons_of_mem _ hz)) fun z hz => ?_
    rcases (mem_putC z c l).1 hz with h | rfl
    · exact hl z h
    · exact hc _ List.mem_cons_self
theorem sortU_ok {cs : List C4} (h : ∀ z ∈ cs, Ok z) : ∀ z ∈ sortU cs, Ok z := foldl_putC_ok cs [] h (by simp)
theorem l2Put_n {cs : List C4} {c : C4} {b o n cap : Nat} {w : World} (hl : cs.length = n) (hn : n ≤ 100000000) (hcap : n ≤ cap) (ho : ∀ z ∈ cs, Ok z) (hc : Ok c) (hz : Sl w (some ⟨b, o, none⟩) cs) :
    Calls Try.prog 47 #[.slice (some ⟨b, o, none⟩) n cap, .agg #[.int .i64 c.a, .int .i64 c.b, .int .i64 c.c, .int .i64 c.d]] w fun e w' => ∃ g cap', e = .returned (.slice (some ⟨g, 0, none⟩) (putC cs c).length cap') ∧ Ex w w' ∧ RowV 29 4 w.heap.size w' g cap' (putC cs c).length (cellsOf (putC cs c)) := by
  subst hl; exact l2Put_c cs c b o cap w hn hcap ho hc hz

theorem l2Sorted_c (cs : List C4) (p : Option Addr) (cap : Nat) (w : World) (hn : cs.length ≤ 100000000) (ho : ∀ z ∈ cs, Ok z) (hz : Sl w p cs) :
    Calls Try.prog 41 #[.slice p cs.length cap] w fun e w' => ∃ g cap', e = .returned (.slice (some ⟨g, 0, none⟩) (sortU cs).length cap') ∧ Ex w w' ∧ RowV 29 4 w.heap.size w' g cap' (sortU cs).length (cellsOf (sortU cs)) := by
  have Hz := Lib.hid hz
  have Ho := Lib.hid ho
  clear hz ho
  go_enter Try.func41, Try.ntmps41
  go_wp2
  go_loopw [3, 4] (fun u v wr => ∃ (k m g cap' : Nat), k ≤ cs.length ∧ v = .int .i64 k ∧ u = .slice (some ⟨g, 0, none⟩) m cap' ∧ (sortU (cs.take k)).length = m ∧ m ≤ k ∧ Ex w wr ∧ RowV 29 4 w.heap.size wr g cap' m (cellsOf (sortU (cs.take k)))) (fun _ v _ => cs.length - (intOf v).toNat)
  case atStart => exact ⟨0, 0, w.heap.size, 0, Nat.zero_le _, rfl, rfl, rfl, Nat.le_refl _, by repeat (first | exact Ex.refl _ | refine Ex.ext ?_ _ | refine Ex.alloc ?_ _ | refine Ex.drew ?_), RowV.start' _ _ _ _ rfl⟩
  case round =>
    obtain ⟨k, m, g, cap', hk, rfl, rfl, hm, hmk, hE, hrow⟩ := hrel
    have HE := Lib.hid hE
    have HR := Lib.hid hrow
    have HM := Lib.hid hm
    by_cases hlt : k < cs.length
    · obtain ⟨b, o, rfl, hb, h1, h2, h3, h4⟩ := (Hz.out.ex hE) k hlt
      have hzo := Lib.hid (Ho.out cs[k] (List.getElem_mem _))
      have Hs := Lib.hid (show sortU (cs.take (k + 1)) = putC (sortU (cs.take k)) cs[k] by rw [takeC_snoc hlt, sortU_snoc])
      have hcm := hrow.lens.1
      have Hok := Lib.hid (sortU_ok (cs := cs.take k) fun z hz => Ho.out z (List.mem_of_mem_take hz))
      have Hsl := Lib.hid ((hrow.row hm.symm).sl)
      clear hE hrow hm
      generalize cs[k] = z at *
      go_wp2_with (go_at_call 47; refine (l2Put_n HM.out (by omega) hcm Hok.out hzo.out Hsl.out).mono ?_; rintro e wX ⟨g2, cap2, rfl, hx, hr2⟩)
      go_roundw
      case rel =>
        have hl2 := putC_len (sortU (cs.take k)) z
        have hbk := HE.out.below.size
        (try ((repeat apply Exists.intro); refine ⟨?_, rfl⟩))
        refine ⟨k + 1, _, g2, cap2, by omega, by go_num, rfl, by rw [Hs.out], by have := HM.out; omega, HE.out.trans hx, ?_⟩
        rw [Hs.out]
        exact hr2.low hbk
      case measure => simp [intOf]; omega
    · have hkn : k = cs.length := by omega
      subst hkn
      clear hE hrow hm
      go_wp2
      go_ret
      have e1 := HM.out
      have e2 := HR.out
      rw [List.take_length] at e1 e2
      subst e1
      exact ⟨g, cap', rfl, HE.out, e2⟩

def soB (cs : List C4) : Bool := cs.all ok && decide ((sortU cs).length ≤ 27)
def soR (cs : List C4) : List C4 := if soB cs then sortU cs else []
theorem soR_len (cs : List C4) : (soR cs).length ≤ 27 := by
  unfold soR; split
  · rename_i h; simp only [soB, Bool.and_eq_true, decide_eq_true_iff] at h; exact h.2
  · simp
theorem all_ok {cs : List C4} (h : cs.all ok = true) : ∀ z ∈ cs, Ok z := fun z hz => (ok_iff z).1 (List.all_eq_true.1 h z hz)
theorem specSortCards_c (cs : List C4) (p : Option Addr) (cap : Nat) (w : World) (hn : cs.length ≤ 100000000) (hz : Sl w p cs) :
    Calls Try.prog 13 #[.slice p cs.length cap] w fun e w' => ∃ q cap', e = .returned (.tuple #[.slice q (soR cs).length cap', .bool (soB cs)]) ∧ Ex w w' ∧ Row w.heap.size w'.heap.size w' q cap' (soR cs) := by
  have Hz := Lib.hid hz
  clear hz
  go_enter Try.func13, Try.ntmps13
  go_wp2
  go_loopw [4] (fun v wr => ∃ k : Nat, k ≤ cs.length ∧ v = .int .i64 k ∧ Ex w wr ∧ ∀ j (h : j < cs.length), j < k → ok cs[j] = true) (fun v _ => cs.length - (intOf v).toNat)
  case atStart => exact ⟨0, Nat.zero_le _, rfl, by repeat (first | exact Ex.refl _ | refine Ex.ext ?_ _ | refine Ex.alloc ?_ _ | refine Ex.drew ?_), fun j _ h => by omega⟩
  case round =>
    obtain ⟨k, hk, rfl, hE, hf⟩ := hrel
    have HE := Lib.hid hE
    have Hf := Lib.hid hf
    clear hf
    by_cases hlt : k < cs.length
    · obtain ⟨b, o, rfl, hb, h1, h2, h3, h4⟩ := (Hz.out.ex hE) k hlt
      have Hg := Lib.hid (List.getElem?_eq_getElem hlt)
      have Hm := Lib.hid (List.getElem_mem hlt)
      clear hE
      generalize cs[k] = z at *
      cases hok : ok z
      · have hB : soB cs = false := by
          have : cs.all ok = false := by
            rw [← Bool.not_eq_true, List.all_eq_true]
            intro h
            have := h z Hm.out
            rw [hok] at this; cases this
          simp [soB, this]
        have hR : soR cs = [] := by simp [soR, hB]
        have HB := Lib.hid hB
        have HR := Lib.hid hR
        clear hB hR
        go_wp2_with (go_at_call 40; refine (l2Card_c _ _).mono ?_; rintro e w' ⟨rfl, x, rfl⟩; rw [hok])
        go_ret2
        rw [HB.out, HR.out]
        exact ⟨_, 0, by simp [ext_size], HE.out.trans (by repeat (first | exact Ex.refl _ | refine Ex.ext ?_ _ | refine Ex.alloc ?_ _ | refine Ex.drew ?_)), (Row.empty _).mono (by have := HE.out.below.size; simp [ext_size]; omega) (by first | (simp; done) | (simp [ext_size]; done) | (simp [ext_size]; omega) | omega)⟩
      · go_wp2_with (go_at_call 40; refine (l2Card_c _ _).mono ?_; rintro e w' ⟨rfl, x, rfl⟩; rw [hok])
        go_roundw
        case rel =>
          refine ⟨k + 1, by omega, by go_num, HE.out.trans (by repeat (first | exact Ex.refl _ | refine Ex.ext ?_ _ | refine Ex.alloc ?_ _ | refine Ex.drew ?_)), fun j hj hjk => ?_⟩
          by_cases e : j = k
          · subst e
            have := Hg.out
            rw [List.getElem?_eq_getElem hj] at this
            rw [Option.some.inj this]
            exact hok
          · exact Hf.out j hj (by omega)
        case measure => simp [intOf]; omega
    · have hall : cs.all ok = true := by
        rw [List.all_eq_true]
        intro z hz
        obtain ⟨j, hj, rfl⟩ := List.getElem_of_mem hz
        exact Hf.out j hj (by omega)
      have Hok := Lib.hid (all_ok hall)
      clear hE
      by_cases h27 : (sortU cs).length ≤ 27
      · have hB : soB cs = true := by simp [soB, hall, h27]
        have hR : soR cs = sortU cs := by simp [soR, hB]
        have HB := Lib.hid hB
        have HR := Lib.hid hR
        clear hB hR hall
        have hi27 : ¬ ((27 : Int) < ((sortU cs).length : Int)) := by omega
        go_wp2_with (go_at_call 41; refine (l2Sorted_c cs p cap _ hn Hok.out (Hz.out.ex HE.out)).mono ?_; rintro e wX ⟨g, cap', rfl, hx, hr⟩)
        go_ret2
        rw [HB.out, HR.out]
        exact ⟨some ⟨g, 0, none⟩, cap', rfl, HE.out.trans hx, (hr.low HE.out.below.size).row rfl⟩
      · have hB : soB cs = false := by simp [soB, h27]
        have hR : soR cs = [] := by simp [soR, hB]
        have HB := Lib.hid hB
        have HR := Lib.hid hR
        clear hB hR hall
        have hi27 : (27 : Int) < ((sortU cs).length : Int) := by omega
        go_wp2_with (go_at_call 41; refine (l2Sorted_c cs p cap _ hn Hok.out (Hz.out.ex HE.out)).mono ?_; rintro e wX ⟨g, cap', rfl, hx, hr⟩)
        go_ret2
        rw [HB.out, HR.out]
        exact ⟨_, 0, by simp [ext_size], (HE.out.trans hx).trans (by repeat (first | exact Ex.refl _ | refine Ex.ext ?_ _ | refine Ex.alloc ?_ _ | refine Ex.drew ?_)), (Row.empty _).mono (by have := (HE.out.trans hx).below.size; simp [ext_size]; omega) (by first | (simp; done) | (simp [ext_size]; done) | (simp [ext_size]; omega) | omega)⟩

theorem implSortCards_c (cs : List C4) (b : Nat) (cap : Nat) (w : World) (hn : cs.length ≤ 100000000) (hz : Sl w (some ⟨b, 0, none⟩) cs) :
    Calls Try.prog 15 #[.slice (some ⟨b, 0, none⟩) cs.length cap] w fun e w' => ∃ q cap', e = .returned (.tuple #[.slice q (soR cs).length cap', .bool (soB cs)]) ∧ Ex w w' ∧ Row w.heap.size w'.heap.size w' q cap' (soR cs) := by
  have Hz := Lib.hid hz
  clear hz
  cases hall : cs.all ok
  · have hB : soB cs = false := by simp [soB, hall]
    have hR : soR cs = [] := by simp [soR, hB]
    rw [hB, hR]
    clear hB hR
    go_enter Try.func15, Try.ntmps15
    go_wp2_with (go_at_call 42; refine (areCards_c cs _ cap _ (by omega) (Hz.out.ex (by repeat (first | exact Ex.refl _ | refine Ex.ext ?_ _ | refine Ex.alloc ?_ _ | refine Ex.drew ?_)))).mono ?_; rintro e w' ⟨rfl, x, rfl⟩; rw [hall])
    go_ret2
    exact ⟨none, 0, rfl, by repeat (first | exact Ex.refl _ | refine Ex.ext ?_ _ | refine Ex.alloc ?_ _ | refine Ex.drew ?_), Row.nil _ _ _⟩
  · have Hok := Lib.hid (all_ok hall)
    by_cases h27 : (sortU cs).length ≤ 27
    · have hB : soB cs = true := by simp [soB, hall, h27]
      have hR : soR cs = sortU cs := by simp [soR, hB]
      rw [hB, hR]
      clear hB hR
      have hi27 : ¬ ((27 : Int) < ((sortU cs).length : Int)) := by omega
      go_enter Try.func15, Try.ntmps15
      go_wp2_with (first | (go_at_call 42; refine (areCards_c cs _ cap _ (by omega) (Hz.out.ex (by repeat (first | exact Ex.refl _ | refine Ex.ext ?_ _ | refine Ex.alloc ?_ _ | refine Ex.drew ?_)))).mono ?_; rintro e w' ⟨rfl, x, rfl⟩; rw [hall]) | (go_at_call 43; refine (sorted_c cs b 0 cap _ hn Hok.out (Hz.out.ex (by exact by repeat (first | exact Ex.refl _ | refine Ex.ext ?_ _ | refine Ex.alloc ?_ _ | refine Ex.drew ?_)))).mono ?_; rintro e wX ⟨g, cap', rfl, hx, hr⟩))
      go_ret2
      exact ⟨some ⟨g, 0, none⟩, cap', rfl, Ex.trans (by repeat (first | exact Ex.refl _ | refine Ex.ext ?_ _ | refine Ex.alloc ?_ _ | refine Ex.drew ?_)) hx, (hr.low (Ex.below (show Ex w _ by exact by repeat (first | exact Ex.refl _ | refine Ex.ext ?_ _ | refine Ex.alloc ?_ _ | refine Ex.drew ?_))).size).row rfl⟩
    · have hB : soB cs = false := by simp [soB, h27]
      have hR : soR cs = [] := by simp [soR, hB]
      rw [hB, hR]
      clear hB hR
      have hi27 : (27 : Int) < ((sortU cs).length : Int) := by omega
      go_enter Try.func15, Try.ntmps15
      go_wp2_with (first | (go_at_call 42; refine (areCards_c cs _ cap _ (by omega) (Hz.out.ex (by repeat (first | exact Ex.refl _ | refine Ex.ext ?_ _ | refine Ex.alloc ?_ _ | refine Ex.drew ?_)))).mono ?_; rintro e w' ⟨rfl, x, rfl⟩; rw [hall]) | (go_at_call 43; refine (sorted_c cs b 0 cap _ hn Hok.out (Hz.out.ex (by exact by repeat (first | exact Ex.refl _ | refine Ex.ext ?_ _ | refine Ex.alloc ?_ _ | refine Ex.drew ?_)))).mono ?_; rintro e wX ⟨g, cap', rfl, hx, hr⟩))
      go_ret2
      exact ⟨none, 0, rfl, (Ex.trans (by repeat (first | exact Ex.refl _ | refine Ex.ext ?_ _ | refine Ex.alloc ?_ _ | refine Ex.drew ?_)) hx).trans (by repeat (first | exact Ex.refl _ | refine Ex.ext ?_ _ | refine Ex.alloc ?_ _ | refine Ex.drew ?_)), Row.nil _ _ _⟩

theorem fnExactSortCards_walk (w : World) (p : Option Addr) (cs : List C4) (cap : Nat) (hl : cs.length ≤ maxLen) (hz : Sl w p cs) : Calls Try.prog 3 #[.slice p cs.length cap] w fun e w' => e = .returned (.bool true) ∧ Below w.heap.size w w' := by
  unfold maxLen at hl
  have hB := Below.refl w.heap.size w
  by_cases hs : cs.length ≤ 1048576
  · go_enter Try.func3, Try.ntmps3
    go_wp2_with (go_at_call 12; refine (sz_c _ _ _ _ (by omega) (by omega) (by omega) _).mono ?_; rintro e w1 ⟨rfl, hx⟩; rw [szSmall hs]; have hB := below_ex hB hx; have hs1 := Lib.hid hx.below.size; clear hx)
    have h3 : ¬ ((1048576 : Int) - cs.length < 0) := by omega
    have hlen := soR_len cs
    go_wp2_with (go_at_call 14; refine (toA4S_o _ _ _ _ (by omega) (hz.below hB)).mono ?_; rintro e w2 ⟨gra, rfl, hx, ra⟩; have hB := below_ex hB hx; have hs2 := Lib.hid hx.below.size; clear hx)
    go_wp2_with (go_at_call 13; refine (specSortCards_c _ _ _ _ (by omega) ra.sl).mono ?_; rintro e w3 ⟨qw, cw, rfl, hx, rw0⟩; have hB := below_ex hB hx; have hs3 := Lib.hid hx.below.size; clear hx)
    go_wp2_with (go_at_call 14; refine (toA4S_o _ _ _ _ (by omega) (hz.below hB)).mono ?_; rintro e w4 ⟨grx, rfl, hx, rx⟩; have rw0 := rw0.ex hx; have hB := below_ex hB hx; have hs4 := Lib.hid hx.below.size; clear hx)
    go_wp2_with (go_at_call 15; refine (implSortCards_c _ _ _ _ (by omega) rx.sl).mono ?_; rintro e w5 ⟨qg, cg, rfl, hx, rg⟩; have rw0 := rw0.ex hx; have rx := rx.ex hx; have hB := below_ex hB hx; have hs5 := Lib.hid hx.below.size; clear hx)
    go_wp2_with (go_at_call 16; refine (eqA4S_c _ _ _ _ _ _ _ (by omega) (by omega) rg.sl rw0.sl).mono ?_; rintro e w6 ⟨rfl, hx⟩; have rw0 := rw0.ex hx; have rx := rx.ex hx; have rg := rg.ex hx; have hB := below_ex hB hx; have hs6 := Lib.hid hx.below.size; clear hx)
    go_wp2_with (go_at_call 14; refine (toA4S_o _ _ _ _ (by omega) (hz.below hB)).mono ?_; rintro e w7 ⟨gry, rfl, hx, ry⟩; have rw0 := rw0.ex hx; have rx := rx.ex hx; have rg := rg.ex hx; have hB := below_ex hB hx; have hs7 := Lib.hid hx.below.size; clear hx)
    go_wp2_with (go_at_call 16; refine (eqA4S_c _ _ _ _ _ _ _ (by omega) (by omega) rx.sl ry.sl).mono ?_; rintro e w8 ⟨rfl, hx⟩; have rw0 := rw0.ex hx; have rx := rx.ex hx; have rg := rg.ex hx; have ry := ry.ex hx; have hB := below_ex hB hx; have hs8 := Lib.hid hx.below.size; clear hx)
    go_wp2_with (go_at_call 17; refine (markA4S_c _ _ _ _ _ _ _ (by omega) (by omega) (by omega) rx).mono ?_; rintro e w9 ⟨rfl, rx, ha⟩; have rw0 := ha.row rw0 (Or.inl (by have := hs1.out; have := hs2.out; have := hs3.out; have := hs4.out; have := hs5.out; have := hs6.out; have := hs7.out; have := hs8.out; omega)); have rg := ha.row rg (Or.inr (by have := hs1.out; have := hs2.out; have := hs3.out; have := hs4.out; have := hs5.out; have := hs6.out; have := hs7.out; have := hs8.out; omega)); have hB := below_apart hB ha (by have := hs1.out; have := hs2.out; have := hs3.out; have := hs4.out; have := hs5.out; have := hs6.out; have := hs7.out; have := hs8.out; omega); have hs9 := Lib.hid ha.size; clear ha)
    go_wp2_with (go_at_call 16; refine (eqA4S_c _ _ _ _ _ _ _ (by omega) (by omega) rg.sl rw0.sl).mono ?_; rintro e w10 ⟨rfl, hx⟩; have rw0 := rw0.ex hx; have rg := rg.ex hx; have hB := below_ex hB hx; have hs10 := Lib.hid hx.below.size; clear hx)
    go_wp2_with (go_at_call 17; refine (markA4S_c _ _ _ _ _ _ _ (by omega) (by omega) (by omega) rg).mono ?_; rintro e w11 ⟨rfl, rg, ha⟩; have rw0 := ha.row rw0 (Or.inl (by have := hs1.out; have := hs2.out; have := hs3.out; have := hs4.out; have := hs5.out; have := hs6.out; have := hs7.out; have := hs8.out; have := hs9.out; have := hs10.out; omega)); have hB := below_apart hB ha (by have := hs1.out; have := hs2.out; have := hs3.out; have := hs4.out; have := hs5.out; have := hs6.out; have := hs7.out; have := hs8.out; have := hs9.out; have := hs10.out; omega); have hs11 := Lib.hid ha.size; clear ha)
    go_wp2_with (go_at_call 18; refine (heldA4S_c _ _ _ _ _ (by omega) (by omega) (by omega) rg.sl).mono ?_; rintro e w12 ⟨rfl, hx⟩; have rw0 := rw0.ex hx; have rg := rg.ex hx; have hB := below_ex hB hx; have hs12 := Lib.hid hx.below.size; clear hx)
    go_wp2_with (go_at_call 14; refine (toA4S_o _ _ _ _ (by omega) (hz.below hB)).mono ?_; rintro e w13 ⟨grz, rfl, hx, rz⟩; have rw0 := rw0.ex hx; have rg := rg.ex hx; have hB := below_ex hB hx; have hs13 := Lib.hid hx.below.size; clear hx)
    go_wp2_with (go_at_call 15; refine (implSortCards_c _ _ _ _ (by omega) rz.sl).mono ?_; rintro e w14 ⟨qh, ch, rfl, hx, rh⟩; have rw0 := rw0.ex hx; have rg := rg.ex hx; have hB := below_ex hB hx; have hs14 := Lib.hid hx.below.size; clear hx)
    go_wp2_with (go_at_call 16; refine (eqA4S_c _ _ _ _ _ _ _ (by omega) (by omega) rh.sl rw0.sl).mono ?_; rintro e w15 ⟨rfl, hx⟩; have rw0 := rw0.ex hx; have rg := rg.ex hx; have rh := rh.ex hx; have hB := below_ex hB hx; have hs15 := Lib.hid hx.below.size; clear hx)
    go_wp2_with (go_at_call 18; refine (heldA4S_c _ _ _ _ _ (by omega) (by omega) (by omega) rg.sl).mono ?_; rintro e w16 ⟨rfl, hx⟩; have rg := rg.ex hx; have hB := below_ex hB hx; have hs16 := Lib.hid hx.below.size; clear hx)
    go_ret
    exact ⟨rfl, hB⟩
  · go_enter Try.func3, Try.ntmps3
    go_wp2_with (go_at_call 12; refine (sz_c _ _ _ _ (by omega) (by omega) (by omega) _).mono ?_; rintro e w1 ⟨rfl, hx⟩; rw [szBig hs]; have hB := below_ex hB hx; clear hx)
    go_ret
    exact ⟨rfl, hB⟩
end Go.Proofs.Ytnjfkgggebhelaa
