/- The walks of the laws' helpers on slices of cards: sizes, copies, equality, marks. -/
import Derived.Test.YtkmnnnhnajnefaaSlice
namespace Go.Proofs.Ytkmnnnhnajnefaa
set_option linter.unusedSimpArgs false
set_option linter.unusedVariables false
set_option maxHeartbeats 1000000
open Go.RowKit

def szR (n : Nat) (left : Int) : Int := if left - n < 0 then -1 else left - n

theorem sz_c (p : Option Addr) (n cap : Nat) (left : Int) (hn : n ≤ 9223372036854775807) (h0 : 0 ≤ left) (h1 : left ≤ 1048576) (w : World) :
    Calls Try.prog 10 #[.slice p n cap, .int .i64 left] w fun e w' => e = .returned (.int .i64 (szR n left)) ∧ Ex w w' := by
  by_cases h : left - n < 0
  all_goals
    go_enter Try.func10, Try.ntmps10
    go_wp2
    go_ret
    exact ⟨ret_int (by unfold szR; split <;> omega), by repeat (first | exact Ex.refl _ | refine Ex.ext ?_ _ | refine Ex.alloc ?_ _ | refine Ex.drew ?_)⟩

theorem make_cards (n : Nat) (h : n ≤ 100000000) (w : World) : (Instr.makeSlice 22 (.int .i64 n) (.int .i64 n)).run Try.prog w =
    .ok (.slice (some ⟨w.heap.size, 0, none⟩) n n) (w.alloc (.cells (madeCells #[.int .i64 0, .int .i64 0, .int .i64 0, .int .i64 0] (n * 4)) 36)) := by
  have hi : (Try.prog.info? 36).map (fun i => (i.zero, i.size, i.bytes)) = some (some (.agg #[.int .i64 0, .int .i64 0, .int .i64 0, .int .i64 0]), 4, 32) := by kernel_rfl
  obtain ⟨i, h1, h2, h3, h4⟩ := info_parts hi
  have := run_make (P := Try.prog) w 22 36 i (.agg #[.int .i64 0, .int .i64 0, .int .i64 0, .int .i64 0]) Try.underlying22 h1 h2 .i64 .i64 n n (by omega) (Int.le_refl _) (by rw [h4]; omega) (by omega)
  rw [h3] at this
  simpa [Value.cells] using this

theorem set4 {A : Array Value} {cs : List C4} {k : Nat} (hk : k < cs.length) (hs : A.size = cs.length * 4) (h : ∀ j, j < k * 4 → A[j]? = (cellsOf cs)[j]?) :
    ∀ j, j < (k + 1) * 4 → ((((A.setIfInBounds (k * 4) (.int .i64 cs[k].a)).setIfInBounds (k * 4 + 1) (.int .i64 cs[k].b)).setIfInBounds (k * 4 + 2) (.int .i64 cs[k].c)).setIfInBounds (k * 4 + 3) (.int .i64 cs[k].d))[j]? = (cellsOf cs)[j]? := by
  intro j hj
  obtain ⟨h1, h2, h3, h4⟩ := cellsOf_get cs k hk
  simp only [Array.getElem?_setIfInBounds, Array.size_setIfInBounds]
  by_cases e4 : k * 4 + 3 = j
  · subst e4; rw [if_pos rfl, if_pos (by omega), h4]
  rw [if_neg e4]
  by_cases e3 : k * 4 + 2 = j
  · subst e3; rw [if_pos rfl, if_pos (by omega), h3]
  rw [if_neg e3]
  by_cases e2 : k * 4 + 1 = j
  · subst e2; rw [if_pos rfl, if_pos (by omega), h2]
  rw [if_neg e2]
  by_cases e1 : k * 4 = j
  · subst e1; rw [if_pos rfl, if_pos (by omega), h1]
  rw [if_neg e1]
  exact h j (by omega)

theorem set4m {A : Array Value} {cs : List C4} {k : Nat} (hk : k < cs.length) (hs : k * 4 + 4 ≤ A.size) (h : ∀ j, j < k * 4 → A[j]? = (cellsOf cs)[j]?) :
    ∀ j, j < (k + 1) * 4 → ((((A.setIfInBounds (k * 4) (.int .i64 cs[k].a)).setIfInBounds (k * 4 + 1) (.int .i64 cs[k].b)).setIfInBounds (k * 4 + 2) (.int .i64 cs[k].c)).setIfInBounds (k * 4 + 3) (.int .i64 cs[k].d))[j]? = (cellsOf cs)[j]? := by
  intro j hj
  obtain ⟨h1, h2, h3, h4⟩ := cellsOf_get cs k hk
  simp only [Array.getElem?_setIfInBounds, Array.size_setIfInBounds]
  by_cases e4 : k * 4 + 3 = j
  · subst e4; rw [if_pos rfl, if_pos (by omega), h4]
  rw [if_neg e4]
  by_cases e3 : k * 4 + 2 = j
  · subst e3; rw [if_pos rfl, if_pos (by omega), h3]
  rw [if_neg e3]
  by_cases e2 : k * 4 + 1 = j
  · subst e2; rw [if_pos rfl, if_pos (by omega), h2]
  rw [if_neg e2]
  by_cases e1 : k * 4 = j
  · subst e1; rw [if_pos rfl, if_pos (by omega), h1]
  rw [if_neg e1]
  exact h j (by omega)

theorem all_cells {A : Array Value} {cs : List C4} (hs : A.size = cs.length * 4) (h : ∀ j, j < cs.length * 4 → A[j]? = (cellsOf cs)[j]?) : A = (cellsOf cs).toArray := by
  apply Array.ext_getElem?
  intro j
  by_cases hj : j < cs.length * 4
  · rw [h j hj]; simp
  · rw [Array.getElem?_eq_none (by omega), List.getElem?_toArray, List.getElem?_eq_none (by rw [cellsOf_length]; omega)]

theorem toA4S_c (cs : List C4) (p : Option Addr) (cap : Nat) (w : World) (hn : cs.length ≤ 2000000) (hz : Sl w p cs) :
    Calls Try.prog 12 #[.slice p cs.length cap] w fun e w' => e = .returned (.slice (some ⟨w.heap.size, 0, none⟩) cs.length cs.length) ∧ ∃ x, w' = ext (w.alloc (.cells (cellsOf cs).toArray 36)) x := by
  have hmk := make_cards cs.length (by omega)
  go_enter Try.func12, Try.ntmps12
  go_wp2
  clear hmk
  go_loopw [4] (fun v wr => ∃ k : Nat, k ≤ cs.length ∧ v = .int .i64 k ∧ ∃ (A : Array Value) (x : Ext), wr = ext (w.alloc (.cells A 36)) x ∧ A.size = cs.length * 4 ∧ ∀ j, j < k * 4 → A[j]? = (cellsOf cs)[j]?) (fun v _ => cs.length - (intOf v).toNat)
  case atStart => exact ⟨0, Nat.zero_le _, rfl, _, _, self_ext _, size_madeCells _ _, fun j hj => by omega⟩
  case round =>
    obtain ⟨k, hk, rfl, A, x, rfl, hA, hc⟩ := hrel
    have Hc := Lib.hid hc
    have HA := Lib.hid hA
    have hA' : A.size ≤ cs.length * 4 := by omega
    have hA'' : cs.length * 4 ≤ A.size := by omega
    clear hc hA
    by_cases hlt : k < cs.length
    · obtain ⟨b, o, rfl, hb, h1, h2, h3, h4⟩ := hz k hlt
      clear hz
      have e1 : ∃ u, A[k * 4]? = some u := ⟨_, Array.getElem?_eq_getElem (by omega)⟩
      have e2 : ∃ u, A[k * 4 + 1]? = some u := ⟨_, Array.getElem?_eq_getElem (by omega)⟩
      have e3 : ∃ u, A[k * 4 + 2]? = some u := ⟨_, Array.getElem?_eq_getElem (by omega)⟩
      have e4 : ∃ u, A[k * 4 + 3]? = some u := ⟨_, Array.getElem?_eq_getElem (by omega)⟩
      obtain ⟨u1, e1⟩ := e1
      obtain ⟨u2, e2⟩ := e2
      obtain ⟨u3, e3⟩ := e3
      obtain ⟨u4, e4⟩ := e4
      go_wp2_with (go_at_call 37; refine (toA4_c _ _).mono ?_; rintro e w' ⟨rfl, x, rfl⟩)
      go_roundw
      case rel =>
        refine ⟨k + 1, by omega, by go_num, _, _, rfl, ?_, ?_⟩
        · simp only [Array.size_setIfInBounds]; exact HA.out
        · exact set4 hlt HA.out Hc.out
      case measure => simp [intOf]; omega
    · have : k = cs.length := by omega
      subst this
      clear hz
      go_wp2
      go_ret
      rw [all_cells HA.out Hc.out]
      exact ⟨rfl, _, rfl⟩

theorem eqA4S_c (cs ds : List C4) (p q : Option Addr) (cap cap2 : Nat) (w : World) (hn : cs.length ≤ 1000000000000) (hm : ds.length ≤ 1000000000000) (hz : Sl w p cs) (hy : Sl w q ds) :
    Calls Try.prog 14 #[.slice p cs.length cap, .slice q ds.length cap2] w fun e w' => e = .returned (.bool (decide (cs = ds))) ∧ Ex w w' := by
  by_cases hl : cs.length = ds.length
  · have Hl := Lib.hid hl
    go_enter Try.func14, Try.ntmps14
    rw [← hl]
    clear hl hm
    go_wp2
    go_loopw [5] (fun v wr => ∃ k : Nat, k ≤ cs.length ∧ v = .int .i64 k ∧ Ex w wr ∧ cs.take k = ds.take k) (fun v _ => cs.length - (intOf v).toNat)
    case atStart => exact ⟨0, Nat.zero_le _, rfl, Ex.refl _, rfl⟩
    case round =>
      obtain ⟨k, hk, rfl, ⟨x, rfl⟩, hf⟩ := hrel
      have Hf := Lib.hid hf
      clear hf
      by_cases hlt : k < cs.length
      · have hlt' : k < ds.length := by have := Hl.out; omega
        obtain ⟨b, o, rfl, hb, h1, h2, h3, h4⟩ := hz k hlt
        obtain ⟨b', o', rfl, hb', h1', h2', h3', h4'⟩ := hy k hlt'
        clear hz hy
        have Hd := Lib.hid (List.take_succ_eq_append_getElem hlt)
        have Hd' := Lib.hid (List.take_succ_eq_append_getElem hlt')
        have Ge := Lib.hid (List.getElem?_eq_getElem hlt)
        have Ge' := Lib.hid (List.getElem?_eq_getElem hlt')
        generalize cs[k] = z at *
        generalize ds[k] = z' at *
        clear hlt'
        go_wp2_with (refine region_quiet (by kernel_rfl) (by kernel_rfl) ?_; (repeat (go_big_quiet_step ((first | (go_at_call 42; exact (eqA4_c _ _ _).mono (by rintro e w' ⟨rfl, y, rfl⟩; first | exact ⟨rfl, _, ext_ext _ _⟩ | exact ⟨rfl, _, by rw [ext_ext, Ext.app_assoc]⟩ | exact ⟨rfl, _, by rw [ext_ext, Ext.app_assoc, Ext.app_assoc]⟩ | exact ⟨rfl, _, by rw [ext_ext, Ext.app_assoc, Ext.app_assoc, Ext.app_assoc]⟩)))))); refine wpQuiet_nil ?_; rintro _ ⟨x, rfl⟩)
        · go_ret
          refine ⟨ret_bool ?_, by repeat (first | exact Ex.refl _ | refine Ex.ext ?_ _ | refine Ex.alloc ?_ _ | refine Ex.drew ?_)⟩
          rename_i hne
          have hne' : z ≠ z' := (ceq_false z z').1 (by simpa using hne)
          refine (decide_eq_false fun e => hne' ?_).symm
          have e1 := Ge.out
          rw [e, Ge'.out] at e1
          exact (Option.some.inj e1).symm
        · go_roundw
          case rel =>
            rename_i heq
            have heq' : z = z' := (ceq_iff z z').1 (by simpa using heq)
            refine ⟨k + 1, by omega, by go_num, by repeat (first | exact Ex.refl _ | refine Ex.ext ?_ _ | refine Ex.alloc ?_ _ | refine Ex.drew ?_), ?_⟩
            rw [Hd.out, Hd'.out, Hf.out, heq']
          case measure => simp [intOf]; omega
      · have : k = cs.length := by omega
        subst this
        clear hz hy
        go_wp2
        go_ret
        refine ⟨ret_bool ?_, by repeat (first | exact Ex.refl _ | refine Ex.ext ?_ _ | refine Ex.alloc ?_ _ | refine Ex.drew ?_)⟩
        have e := Hf.out
        rw [List.take_length, Hl.out, List.take_length] at e
        simp [e]
  · go_enter Try.func14, Try.ntmps14
    clear hz hy
    go_wp2
    go_ret
    exact ⟨ret_bool (decide_eq_false fun e => hl (by rw [e])).symm, by repeat (first | exact Ex.refl _ | refine Ex.ext ?_ _ | refine Ex.alloc ?_ _ | refine Ex.drew ?_)⟩

/-- A row of marks. -/
def mark1 (n : Int) (i : Nat) : C4 := ⟨n + 4 * i, n + 4 * i + 1, n + 4 * i + 1 + 1, n + 4 * i + 1 + 1 + 1⟩
def marks (n : Int) (len : Nat) : List C4 := (List.range len).map (mark1 n)
@[simp] theorem marks_length (n : Int) (len : Nat) : (marks n len).length = len := by simp [marks]
theorem marks_get (n : Int) (len i : Nat) (h : i < (marks n len).length) : (marks n len)[i] = mark1 n i := by simp [marks]

/-- What a mark leaves: worlds that agree but for the blocks from 'lo' up to 'hi'. -/
structure Apart (lo hi : Nat) (w w' : World) : Prop where
  tape : w'.tape = w.tape
  os : w'.os = w.os
  output : w'.output = w.output
  size : w.heap.size ≤ w'.heap.size
  same : ∀ k, k < w.heap.size → k < lo ∨ hi ≤ k → w'.heap[k]? = w.heap[k]?
theorem Apart.below {lo hi B : Nat} {w w' : World} (h : Apart lo hi w w') (hB : B ≤ lo) (hw : B ≤ w.heap.size) : Below B w w' :=
  ⟨h.os, h.tape, h.output, h.size, fun k hk => h.same k (by omega) (Or.inl (by omega))⟩
theorem Apart.row {lo hi lo' hi' cap : Nat} {w w' : World} {p : Option Addr} {cs : List C4} (h : Apart lo hi w w') (hr : Row lo' hi' w p cap cs) (hd : hi' ≤ lo ∨ hi ≤ lo') : Row lo' hi' w' p cap cs := by
  refine ⟨⟨hr.own.1, ?_⟩, hr.top⟩
  rcases hr.own.2 with h1 | ⟨g, cap', cur, h1, h2, h3, h4⟩
  · exact Or.inl h1
  · have hg : g < hi' := hr.top ⟨g, 0, none⟩ (by simp at h1; exact h1.1)
    have hw : g < w.heap.size := (Array.getElem?_eq_some_iff.1 h3).1
    exact Or.inr ⟨g, cap', cur, h1, h2, by rw [h.same g hw (by omega)]; exact h3, h4⟩
theorem Apart.sl {lo hi B : Nat} {w w' : World} {p : Option Addr} {cs : List C4} (h : Apart lo hi w w') (hs : Sl w p cs) (hB : ∀ a, p = some a → a.block < lo) : Sl w' p cs := fun i hi' => by
  obtain ⟨b, o, e, hl, h1, h2, h3, h4⟩ := hs i hi'
  have hb := hB _ e
  have e' : ∀ k, w'.cell? ⟨b, k, none⟩ = w.cell? ⟨b, k, none⟩ := fun k => by simp only [World.cell?]; rw [h.same b hl (Or.inl hb)]
  exact ⟨b, o, e, Nat.lt_of_lt_of_le hl h.size, by rw [e']; exact h1, by rw [e']; exact h2, by rw [e']; exact h3, by rw [e']; exact h4⟩

theorem row_set {lo hi cap : Nat} {w : World} {g : Nat} {cs ds : List C4} {A : Array Value} (h : Row lo hi w (some ⟨g, 0, none⟩) cap cs) (hl : ds.length = cs.length) (hs : A.size = cap * 4)
    (hA : ∀ j, j < ds.length * 4 → A[j]? = (cellsOf ds)[j]?) : Row lo hi (setBlk w g (.cells A 36 (0, 0))) (some ⟨g, 0, none⟩) cap ds := by
  refine ⟨⟨by rw [cellsOf_length], ?_⟩, h.top⟩
  rcases h.own.2 with ⟨h1, h2⟩ | ⟨g', cap', cur, h1, h2, h3, h4, h5, h6, h7⟩
  · simp at h1
  · simp at h1
    obtain ⟨rfl, rfl⟩ := h1
    have hg : g < w.heap.size := (Array.getElem?_eq_some_iff.1 h3).1
    refine Or.inr ⟨g, cap, A, rfl, h2, by rw [setBlk_heap, if_pos rfl, if_pos hg], by omega, h5, hs, ?_⟩
    apply List.ext_getElem?
    intro j
    rw [List.getElem?_take]
    split
    · rename_i hj; rw [Array.getElem?_toList]; exact hA j hj
    · rename_i hj; rw [List.getElem?_eq_none]; rw [cellsOf_length]; omega

theorem markA4S_c (cs : List C4) (p : Option Addr) (cap : Nat) (n : Int) (lo hi : Nat) (w : World) (hn : cs.length ≤ 2000000) (h0 : 0 ≤ n) (h1 : n ≤ 1000000000) (h : Row lo hi w p cap cs) :
    Calls Try.prog 18 #[.slice p cs.length cap, .int .i64 n] w fun e w' => e = .returned (.int .i64 (n + 4 * cs.length)) ∧ Row lo hi w' p cap (marks n cs.length) ∧ Apart lo hi w w' := by
  rcases h.blk with ⟨rfl, rfl, rfl⟩ | ⟨g, cur, rfl, hg1, hg2, hg, hh, hc, hm, hs, ht⟩
  · have H := Lib.hid h
    clear h
    go_enter Try.func18, Try.ntmps18
    go_wp2
    refine wp_loop_rounds 1 ?_
    rw [rounds_succ]
    go_wp2
    go_ret
    exact ⟨by simp, H.out, rfl, rfl, rfl, Nat.le_refl _, fun _ _ _ => rfl⟩
  · have H := Lib.hid h
    have hset := setBlk_self hh
    have Hs := Lib.hid hs
    clear h ht hh
    unfold maxLen at hm
    suffices hsuf : Calls Try.prog 18 #[.slice (some ⟨g, 0, none⟩) cs.length cap, .int .i64 n] (setBlk w g (.cells cur 36 (0, 0))) fun e w' => e = .returned (.int .i64 (n + 4 * cs.length)) ∧
        ∃ A, w' = setBlk w g (.cells A 36 (0, 0)) ∧ A.size = cap * 4 ∧ ∀ j, j < cs.length * 4 → A[j]? = (cellsOf (marks n cs.length))[j]? by
      rw [← hset] at hsuf
      refine hsuf.mono ?_
      rintro e w' ⟨rfl, A, rfl, h2, h3⟩
      exact ⟨rfl, row_set H.out (by simp) h2 (by simpa using h3), rfl, rfl, rfl, by rw [setBlk_size]; exact Nat.le_refl _, fun k hk hk2 => by rw [setBlk_heap, if_neg (by omega)]⟩
    clear hset
    go_enter Try.func18, Try.ntmps18
    go_wp2
    go_loopw [1, 5] (fun u v wr => ∃ k : Nat, k ≤ cs.length ∧ v = .int .i64 k ∧ u = .int .i64 (n + 4 * k) ∧ ∃ A, wr = setBlk w g (.cells A 36 (0, 0)) ∧ A.size = cap * 4 ∧ ∀ j, j < k * 4 → A[j]? = (cellsOf (marks n cs.length))[j]?) (fun _ v _ => cs.length - (intOf v).toNat)
    case atStart => exact ⟨0, Nat.zero_le _, rfl, by simp, cur, rfl, Hs.out, fun j hj => by omega⟩
    case round =>
      obtain ⟨k, hk, rfl, rfl, A, rfl, hA, hf⟩ := hrel
      have Hf := Lib.hid hf
      have HA := Lib.hid hA
      clear hf hs Hs
      by_cases hlt : k < cs.length
      · obtain ⟨u1, e1⟩ : ∃ u, A[k * 4]? = some u := ⟨_, Array.getElem?_eq_getElem (by omega)⟩
        obtain ⟨u2, e2⟩ : ∃ u, A[k * 4 + 1]? = some u := ⟨_, Array.getElem?_eq_getElem (by omega)⟩
        obtain ⟨u3, e3⟩ : ∃ u, A[k * 4 + 2]? = some u := ⟨_, Array.getElem?_eq_getElem (by omega)⟩
        obtain ⟨u4, e4⟩ : ∃ u, A[k * 4 + 3]? = some u := ⟨_, Array.getElem?_eq_getElem (by omega)⟩
        clear hA
        go_wp2
        refine wp_loop_rounds 5 ?_
        iterate 5 (all_goals (try rw [rounds_succ]); go_wp2)
        go_roundw
        case rel =>
          refine ⟨k + 1, by omega, by go_num, by go_num, _, rfl, ?_, ?_⟩
          · simp only [Array.size_setIfInBounds]; exact HA.out
          · have hs4 := set4m (cs := marks n cs.length) (k := k) (A := A) (by simpa using hlt) (by rw [HA.out]; omega) Hf.out
            rw [marks_get] at hs4
            simp only [mark1] at hs4
            exact hs4
        case measure => simp [intOf]; omega
      · have : k = cs.length := by omega
        subst this
        clear hA
        go_wp2
        go_ret
        exact ⟨rfl, A, rfl, HA.out, Hf.out⟩
end Go.Proofs.Ytkmnnnhnajnefaa
