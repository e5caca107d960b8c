/- Rows of pairs and triples of whole numbers that a call owns, and the laws' helpers on them. -/
import Derived.Test.YtdnnjhgkcchcaaaInts
namespace Go.Proofs.Ytdnnjhgkcchcaaa
set_option linter.unusedSimpArgs false
set_option linter.unusedVariables false
set_option maxHeartbeats 1000000
set_option maxRecDepth 100000
open Go.RowKit

/-- A row that a call owns: 'n' elements of 'size' cells each, all numbers. -/
structure RowZ (E size lo hi : Nat) (w : World) (p : Option Addr) (cap n : Nat) (zs : List Int) : Prop where
  own : w.ownsRow lo E size (.slice p n cap) n (intVals zs)
  top : ∀ a, p = some a → a.block < hi

section
variable {E size lo hi cap n : Nat} {w w' : World} {p : Option Addr} {zs : List Int}
theorem RowZ.len (h : RowZ E size lo hi w p cap n zs) : zs.length = n * size := by
  have := h.own.1; simpa using this
theorem RowZ.blk (h : RowZ E size lo hi w p cap n zs) : (p = none ∧ n = 0 ∧ cap = 0) ∨ ∃ g cur, p = some ⟨g, 0, none⟩ ∧ lo ≤ g ∧ g < hi ∧ g < w.heap.size ∧ w.heap[g]? = some (.cells cur E (0, 0)) ∧ n ≤ cap ∧ cap ≤ maxLen ∧ cur.size = cap * size ∧ cur.toList.take (n * size) = intVals zs := by
  rcases h.own.2 with ⟨h1, h2⟩ | ⟨g, cap', cur, h1, h2, h3, h4⟩
  · simp at h1
    exact Or.inl ⟨h1.1, h2, h1.2.2⟩
  · simp at h1
    obtain ⟨rfl, rfl⟩ := h1
    exact Or.inr ⟨g, cur, rfl, h2, h.top _ rfl, (Array.getElem?_eq_some_iff.1 h3).1, h3, h4⟩
theorem RowZ.sl (h : RowZ E size lo hi w p cap n zs) : SlI w p zs := fun i hi' => by
  have hlen := h.len
  rcases h.blk with ⟨_, rfl, _⟩ | ⟨g, cur, rfl, _, _, hg, hh, hc, hm, hs, ht⟩
  · simp at hlen; subst hlen; simp at hi'
  · refine ⟨g, 0, rfl, hg, ?_⟩
    rw [Nat.zero_add]
    have : cur[i]? = (intVals zs)[i]? := by rw [← ht, List.getElem?_take, if_pos (by omega), Array.getElem?_toList]
    simp only [World.cell?, hh]
    rw [intVals_get zs i hi'] at this
    simpa using this
theorem RowZ.ex (h : RowZ E size lo hi w p cap n zs) (hb : Ex w w') : RowZ E size lo hi w' p cap n zs := by
  obtain ⟨x, rfl⟩ := hb
  exact ⟨own_ext h.own x, h.top⟩
theorem RowZ.mono {lo' hi' : Nat} (h : RowZ E size lo hi w p cap n zs) (h1 : lo' ≤ lo) (h2 : hi ≤ hi') : RowZ E size lo' hi' w p cap n zs :=
  ⟨own_base h.own h1, fun a e => Nat.lt_of_lt_of_le (h.top a e) h2⟩
theorem RowZ.nil (w : World) (lo hi : Nat) : RowZ E size lo hi w none 0 0 [] := ⟨own_nil w lo _ _, fun a e => by cases e⟩
theorem RowV.rowZ {g : Nat} (h : RowV E size lo w g cap n (intVals zs)) : RowZ E size lo w.heap.size w (some ⟨g, 0, none⟩) cap n zs :=
  ⟨h, fun a e => by simp at e; subst e; exact h.blk.2⟩
theorem Apart.rowZ {lo' hi' : Nat} (h : Apart lo hi w w') (hr : RowZ E size lo' hi' w p cap n zs) (hd : hi' ≤ lo ∨ hi ≤ lo') : RowZ E size lo' hi' w' p cap n zs := by
  refine ⟨⟨hr.own.1, ?_⟩, hr.top⟩
  rcases hr.own.2 with h1 | ⟨g, cap', cur, h1, h2, h3, h4⟩
  · exact Or.inl h1
  · have hg : g < hi' := hr.top ⟨g, 0, none⟩ (by simp at h1; exact h1.1)
    have hw : g < w.heap.size := (Array.getElem?_eq_some_iff.1 h3).1
    exact Or.inr ⟨g, cap', cur, h1, h2, by rw [h.same g hw (by omega)]; exact h3, h4⟩
theorem rowZ_set {g : Nat} {ds : List Int} {A : Array Value} (h : RowZ E size lo hi w (some ⟨g, 0, none⟩) cap n zs) (hl : ds.length = n * size) (hs : A.size = cap * size)
    (hA : ∀ j, j < ds.length → A[j]? = (intVals ds)[j]?) : RowZ E size lo hi (setBlk w g (.cells A E (0, 0))) (some ⟨g, 0, none⟩) cap n ds := by
  refine ⟨⟨by simpa using hl, ?_⟩, h.top⟩
  rcases h.blk with ⟨h1, h2⟩ | ⟨g', cur, h1, h2, h3, h4, h5, h6, h7, h8, h9⟩
  · simp at h1
  · simp at h1
    subst h1
    refine Or.inr ⟨g, cap, A, rfl, h2, by rw [setBlk_heap, if_pos rfl, if_pos h4], by omega, h7, by omega, ?_⟩
    apply List.ext_getElem?
    intro j
    rw [List.getElem?_take]
    split
    · rename_i hj; rw [Array.getElem?_toList]; exact hA j (by omega)
    · rename_i hj; rw [List.getElem?_eq_none]; simp; omega
end
theorem SlI.cell {w : World} {b o : Nat} {zs : List Int} (h : SlI w (some ⟨b, o, none⟩) zs) (i : Nat) (hi : i < zs.length) : w.cell? ⟨b, o + i, none⟩ = some (.int .i64 (zs.getD i 0)) := by
  obtain ⟨b', o', e, hb, h1⟩ := h i hi
  simp at e
  obtain ⟨rfl, rfl⟩ := e
  rw [h1, List.getD_eq_getElem?_getD, List.getElem?_eq_getElem hi]; rfl
theorem marksI_getD (n : Int) (len i : Nat) (h : i < len) : (marksI n len).getD i 0 = n + (i : Int) := by
  rw [List.getD_eq_getElem?_getD, List.getElem?_eq_getElem (by simpa using h), marksI_get]; rfl

theorem SlI.at2 {w : World} {p : Option Addr} {zs : List Int} {n k : Nat} (h : SlI w p zs) (hl : zs.length = n * 2) (hk : k < n) :
    ∃ b o, p = some ⟨b, o, none⟩ ∧ b < w.heap.size ∧ w.cell? ⟨b, o + k * 2, none⟩ = some (.int .i64 (zs.getD (k * 2) 0)) ∧ w.cell? ⟨b, o + k * 2 + 1, none⟩ = some (.int .i64 (zs.getD (k * 2 + 1) 0)) := by
  obtain ⟨b, o, e, hb, _⟩ := h (k * 2) (by omega)
  subst e
  exact ⟨b, o, rfl, hb, h.cell (k * 2) (by omega), h.cell (k * 2 + 1) (by omega)⟩

theorem rowA2 : RowT Try.prog 49 71 2 16 :=
  ⟨Try.underlying49, by
    have h : (Try.prog.info? 71).map (fun i => (i.zero, i.size, i.bytes)) = some (some (.agg #[.int .i64 0, .int .i64 0]), 2, 16) := by kernel_rfl
    obtain ⟨i, h1, h2, h3, h4⟩ := info_parts h
    exact ⟨i, _, h1, h2, h3, h4, rfl⟩, by decide⟩

theorem eqA2_same (x y : Int) (w : World) : Calls Try.prog 83 #[.agg #[.int .i64 x, .int .i64 y], .agg #[.int .i64 x, .int .i64 y]] w fun e w' => e = .returned (.bool true) ∧ Ex w w' := by
  go_enter Try.func83, Try.ntmps83
  go_wp2
  refine wp_loop_rounds 3 ?_
  iterate 3 (all_goals (try rw [rounds_succ]); go_wp2_with (refine region_quiet (by kernel_rfl) (by kernel_rfl) ?_; (repeat (go_big_quiet_step (fail))); refine wpQuiet_nil ?_; rintro _ ⟨x, rfl⟩))
  go_ret
  exact ⟨rfl, by repeat (first | exact Ex.refl _ | refine Ex.ext ?_ _ | refine Ex.alloc ?_ _ | refine Ex.drew ?_)⟩

theorem eqA2S_same (zs : List Int) (n : Nat) (p q : Option Addr) (cap cap2 : Nat) (w : World) (hl : zs.length = n * 2) (hn : n ≤ 1000000000000) (hz : SlI w p zs) (hy : SlI w q zs) :
    Calls Try.prog 41 #[.slice p n cap, .slice q n cap2] w fun e w' => e = .returned (.bool true) ∧ Ex w w' := by
  have Hz := Lib.hid hz
  have Hy := Lib.hid hy
  have Hl := Lib.hid hl
  clear hz hy hl
  go_enter Try.func41, Try.ntmps41
  go_wp2
  go_loopw [5] (fun v wr => ∃ k : Nat, k ≤ n ∧ v = .int .i64 k ∧ Ex w wr) (fun v _ => n - (intOf v).toNat)
  case atStart => exact ⟨0, Nat.zero_le _, rfl, Ex.refl _⟩
  case round =>
    obtain ⟨k, hk, rfl, ⟨x0, rfl⟩⟩ := hrel
    by_cases hlt : k < n
    · obtain ⟨b, o, rfl, hb, h1, h2⟩ := Hz.out.at2 Hl.out hlt
      obtain ⟨b', o', rfl, hb', h1', h2'⟩ := Hy.out.at2 Hl.out hlt
      generalize zs.getD (k * 2) 0 = x at *
      generalize zs.getD (k * 2 + 1) 0 = y at *
      go_wp2_with (refine region_quiet (by kernel_rfl) (by kernel_rfl) ?_; (repeat (go_big_quiet_step ((first | (go_at_call 83; exact (eqA2_same _ _ _).mono (by rintro e w' ⟨rfl, y, rfl⟩; first | exact ⟨rfl, _, ext_ext _ _⟩ | exact ⟨rfl, _, by rw [ext_ext, Ext.app_assoc]⟩ | exact ⟨rfl, _, by rw [ext_ext, Ext.app_assoc, Ext.app_assoc]⟩ | exact ⟨rfl, _, by rw [ext_ext, Ext.app_assoc, Ext.app_assoc, Ext.app_assoc]⟩)))))); refine wpQuiet_nil ?_; rintro _ ⟨x, rfl⟩)
      go_roundw
      case rel => exact ⟨k + 1, by omega, by go_num, by repeat (first | exact Ex.refl _ | refine Ex.ext ?_ _ | refine Ex.alloc ?_ _ | refine Ex.drew ?_)⟩
      case measure => simp [intOf]; omega
    · have : k = n := by omega
      subst this
      go_wp2
      go_ret
      exact ⟨rfl, by repeat (first | exact Ex.refl _ | refine Ex.ext ?_ _ | refine Ex.alloc ?_ _ | refine Ex.drew ?_)⟩

theorem heldA2S_c (len : Nat) (p : Option Addr) (cap : Nat) (n : Int) (w : World) (hn : len ≤ 1000000) (h0 : 0 ≤ n) (h1 : n ≤ 1000000000) (hz : SlI w p (marksI n (len * 2))) :
    Calls Try.prog 43 #[.slice p len cap, .int .i64 n] w fun e w' => e = .returned (.int .i64 (n + 2 * len)) ∧ Ex w w' := by
  have Hz := Lib.hid hz
  clear hz
  go_enter Try.func43, Try.ntmps43
  go_wp2
  go_loopw [1, 5] (fun u v wr => ∃ k : Nat, k ≤ len ∧ v = .int .i64 k ∧ u = .int .i64 (n + 2 * k) ∧ Ex w wr) (fun _ v _ => len - (intOf v).toNat)
  case atStart => exact ⟨0, Nat.zero_le _, rfl, by simp, Ex.refl _⟩
  case round =>
    obtain ⟨k, hk, rfl, rfl, ⟨x, rfl⟩⟩ := hrel
    by_cases hlt : k < len
    · obtain ⟨b, o, rfl, hb, h1, h2⟩ := Hz.out.at2 (marksI_length _ _) hlt
      rw [marksI_getD _ _ _ (by omega), show n + ((k * 2 : Nat) : Int) = n + 2 * k by omega] at h1
      rw [marksI_getD _ _ _ (by omega), show n + ((k * 2 + 1 : Nat) : Int) = n + 2 * k + 1 by omega] at h2
      go_wp2
      refine wp_loop_rounds 3 ?_
      iterate 3 (all_goals (try rw [rounds_succ]); go_wp2)
      go_roundw
      case rel => exact ⟨k + 1, by omega, by go_num, by go_num, by repeat (first | exact Ex.refl _ | refine Ex.ext ?_ _ | refine Ex.alloc ?_ _ | refine Ex.drew ?_)⟩
      case measure => simp [intOf]; omega
    · have : k = len := by omega
      subst this
      go_wp2
      go_ret
      exact ⟨rfl, by repeat (first | exact Ex.refl _ | refine Ex.ext ?_ _ | refine Ex.alloc ?_ _ | refine Ex.drew ?_)⟩

theorem setm2 {A : Array Value} {n : Int} {len k : Nat} (hk : k < len) (hs : k * 2 + 2 ≤ A.size) (h : ∀ j, j < k * 2 → A[j]? = (intVals (marksI n (len * 2)))[j]?) :
    ∀ j, j < (k + 1) * 2 → ((A.setIfInBounds (k * 2) (.int .i64 (n + 2 * k))).setIfInBounds (k * 2 + 1) (.int .i64 (n + 2 * k + 1)))[j]? = (intVals (marksI n (len * 2)))[j]? := by
  intro j hj
  simp only [Array.getElem?_setIfInBounds, Array.size_setIfInBounds]
  by_cases e1 : k * 2 + 1 = j
  · subst e1; rw [if_pos rfl, if_pos (by omega), intVals_get _ _ (by rw [marksI_length]; omega), marksI_get, show n + ((k * 2 + 1 : Nat) : Int) = n + 2 * k + 1 by omega]
  rw [if_neg e1]
  by_cases e0 : k * 2 = j
  · subst e0; rw [if_pos rfl, if_pos (by omega), intVals_get _ _ (by rw [marksI_length]; omega), marksI_get, show n + ((k * 2 : Nat) : Int) = n + 2 * k by omega]
  rw [if_neg e0]
  exact h j (by omega)

theorem markA2S_c (zs : List Int) (p : Option Addr) (cap len : Nat) (n : Int) (lo hi : Nat) (w : World) (hn : len ≤ 1000000) (h0 : 0 ≤ n) (h1 : n ≤ 1000000000) (h : RowZ 71 2 lo hi w p cap len zs) :
    Calls Try.prog 42 #[.slice p len cap, .int .i64 n] w fun e w' => e = .returned (.int .i64 (n + 2 * len)) ∧ RowZ 71 2 lo hi w' p cap len (marksI n (len * 2)) ∧ Apart lo hi w w' := by
  have hlen := h.len
  rcases h.blk with ⟨rfl, rfl, rfl⟩ | ⟨g, cur, rfl, hg1, hg2, hg, hh, hc, hm, hs, ht⟩
  · have H := Lib.hid h
    clear h hlen
    go_enter Try.func42, Try.ntmps42
    go_wp2
    refine wp_loop_rounds 1 ?_
    rw [rounds_succ]
    go_wp2
    go_ret
    exact ⟨by simp, RowZ.nil _ _ _, rfl, rfl, rfl, Nat.le_refl _, fun _ _ _ => rfl⟩
  · have H := Lib.hid h
    have hset := setBlk_self hh
    have Hs := Lib.hid hs
    clear h ht hh hlen
    unfold maxLen at hm
    suffices hsuf : Calls Try.prog 42 #[.slice (some ⟨g, 0, none⟩) len cap, .int .i64 n] (setBlk w g (.cells cur 71 (0, 0))) fun e w' => e = .returned (.int .i64 (n + 2 * len)) ∧
        ∃ A, w' = setBlk w g (.cells A 71 (0, 0)) ∧ A.size = cap * 2 ∧ ∀ j, j < len * 2 → A[j]? = (intVals (marksI n (len * 2)))[j]? by
      rw [← hset] at hsuf
      refine hsuf.mono ?_
      rintro e w' ⟨rfl, A, rfl, h2, h3⟩
      exact ⟨rfl, rowZ_set H.out (by simp) h2 (by simpa using h3), rfl, rfl, rfl, by rw [setBlk_size]; exact Nat.le_refl _, fun k hk hk2 => by rw [setBlk_heap, if_neg (by omega)]⟩
    clear hset
    go_enter Try.func42, Try.ntmps42
    go_wp2
    go_loopw [1, 5] (fun u v wr => ∃ k : Nat, k ≤ len ∧ v = .int .i64 k ∧ u = .int .i64 (n + 2 * k) ∧ ∃ A, wr = setBlk w g (.cells A 71 (0, 0)) ∧ A.size = cap * 2 ∧ ∀ j, j < k * 2 → A[j]? = (intVals (marksI n (len * 2)))[j]?) (fun _ v _ => len - (intOf v).toNat)
    case atStart => exact ⟨0, Nat.zero_le _, rfl, by simp, cur, rfl, Hs.out, fun j hj => by omega⟩
    case round =>
      obtain ⟨k, hk, rfl, rfl, A, rfl, hA, hf⟩ := hrel
      have Hf := Lib.hid hf
      have HA := Lib.hid hA
      clear hf hs Hs
      by_cases hlt : k < len
      · obtain ⟨u1, e1⟩ : ∃ u, A[k * 2]? = some u := ⟨_, Array.getElem?_eq_getElem (by omega)⟩
        obtain ⟨u2, e2⟩ : ∃ u, A[k * 2 + 1]? = some u := ⟨_, Array.getElem?_eq_getElem (by omega)⟩
        clear hA
        go_wp2
        refine wp_loop_rounds 3 ?_
        iterate 3 (all_goals (try rw [rounds_succ]); go_wp2)
        go_roundw
        case rel =>
          refine ⟨k + 1, by omega, by go_num, by go_num, _, rfl, ?_, ?_⟩
          · simp only [Array.size_setIfInBounds]; exact HA.out
          · exact setm2 hlt (by rw [HA.out]; omega) Hf.out
        case measure => simp [intOf]; omega
      · have : k = len := by omega
        subst this
        clear hA
        go_wp2
        go_ret
        exact ⟨rfl, A, rfl, HA.out, Hf.out⟩

theorem SlI.at3 {w : World} {p : Option Addr} {zs : List Int} {n k : Nat} (h : SlI w p zs) (hl : zs.length = n * 3) (hk : k < n) :
    ∃ b o, p = some ⟨b, o, none⟩ ∧ b < w.heap.size ∧ w.cell? ⟨b, o + k * 3, none⟩ = some (.int .i64 (zs.getD (k * 3) 0)) ∧ w.cell? ⟨b, o + k * 3 + 1, none⟩ = some (.int .i64 (zs.getD (k * 3 + 1) 0)) ∧ w.cell? ⟨b, o + k * 3 + 2, none⟩ = some (.int .i64 (zs.getD (k * 3 + 2) 0)) := by
  obtain ⟨b, o, e, hb, _⟩ := h (k * 3) (by omega)
  subst e
  exact ⟨b, o, rfl, hb, h.cell (k * 3) (by omega), h.cell (k * 3 + 1) (by omega), h.cell (k * 3 + 2) (by omega)⟩

theorem rowA3 : RowT Try.prog 40 68 3 24 :=
  ⟨Try.underlying40, by
    have h : (Try.prog.info? 68).map (fun i => (i.zero, i.size, i.bytes)) = some (some (.agg #[.int .i64 0, .int .i64 0, .int .i64 0]), 3, 24) := by kernel_rfl
    obtain ⟨i, h1, h2, h3, h4⟩ := info_parts h
    exact ⟨i, _, h1, h2, h3, h4, rfl⟩, by decide⟩

theorem eqA3_same (x y z : Int) (w : World) : Calls Try.prog 75 #[.agg #[.int .i64 x, .int .i64 y, .int .i64 z], .agg #[.int .i64 x, .int .i64 y, .int .i64 z]] w fun e w' => e = .returned (.bool true) ∧ Ex w w' := by
  go_enter Try.func75, Try.ntmps75
  go_wp2
  refine wp_loop_rounds 4 ?_
  iterate 4 (all_goals (try rw [rounds_succ]); go_wp2_with (refine region_quiet (by kernel_rfl) (by kernel_rfl) ?_; (repeat (go_big_quiet_step (fail))); refine wpQuiet_nil ?_; rintro _ ⟨x, rfl⟩))
  go_ret
  exact ⟨rfl, by repeat (first | exact Ex.refl _ | refine Ex.ext ?_ _ | refine Ex.alloc ?_ _ | refine Ex.drew ?_)⟩

theorem eqA3S_same (zs : List Int) (n : Nat) (p q : Option Addr) (cap cap2 : Nat) (w : World) (hl : zs.length = n * 3) (hn : n ≤ 1000000000000) (hz : SlI w p zs) (hy : SlI w q zs) :
    Calls Try.prog 33 #[.slice p n cap, .slice q n cap2] w fun e w' => e = .returned (.bool true) ∧ Ex w w' := by
  have Hz := Lib.hid hz
  have Hy := Lib.hid hy
  have Hl := Lib.hid hl
  clear hz hy hl
  go_enter Try.func33, Try.ntmps33
  go_wp2
  go_loopw [5] (fun v wr => ∃ k : Nat, k ≤ n ∧ v = .int .i64 k ∧ Ex w wr) (fun v _ => n - (intOf v).toNat)
  case atStart => exact ⟨0, Nat.zero_le _, rfl, Ex.refl _⟩
  case round =>
    obtain ⟨k, hk, rfl, ⟨x0, rfl⟩⟩ := hrel
    by_cases hlt : k < n
    · obtain ⟨b, o, rfl, hb, h1, h2, h3⟩ := Hz.out.at3 Hl.out hlt
      obtain ⟨b', o', rfl, hb', h1', h2', h3'⟩ := Hy.out.at3 Hl.out hlt
      generalize zs.getD (k * 3) 0 = x at *
      generalize zs.getD (k * 3 + 1) 0 = y at *
      generalize zs.getD (k * 3 + 2) 0 = z at *
      go_wp2_with (refine region_quiet (by kernel_rfl) (by kernel_rfl) ?_; (repeat (go_big_quiet_step ((first | (go_at_call 75; exact (eqA3_same _ _ _ _).mono (by rintro e w' ⟨rfl, y, rfl⟩; first | exact ⟨rfl, _, ext_ext _ _⟩ | exact ⟨rfl, _, by rw [ext_ext, Ext.app_assoc]⟩ | exact ⟨rfl, _, by rw [ext_ext, Ext.app_assoc, Ext.app_assoc]⟩ | exact ⟨rfl, _, by rw [ext_ext, Ext.app_assoc, Ext.app_assoc, Ext.app_assoc]⟩)))))); refine wpQuiet_nil ?_; rintro _ ⟨x, rfl⟩)
      go_roundw
      case rel => exact ⟨k + 1, by omega, by go_num, by repeat (first | exact Ex.refl _ | refine Ex.ext ?_ _ | refine Ex.alloc ?_ _ | refine Ex.drew ?_)⟩
      case measure => simp [intOf]; omega
    · have : k = n := by omega
      subst this
      go_wp2
      go_ret
      exact ⟨rfl, by repeat (first | exact Ex.refl _ | refine Ex.ext ?_ _ | refine Ex.alloc ?_ _ | refine Ex.drew ?_)⟩

theorem heldA3S_c (len : Nat) (p : Option Addr) (cap : Nat) (n : Int) (w : World) (hn : len ≤ 1000000) (h0 : 0 ≤ n) (h1 : n ≤ 1000000000) (hz : SlI w p (marksI n (len * 3))) :
    Calls Try.prog 35 #[.slice p len cap, .int .i64 n] w fun e w' => e = .returned (.int .i64 (n + 3 * len)) ∧ Ex w w' := by
  have Hz := Lib.hid hz
  clear hz
  go_enter Try.func35, Try.ntmps35
  go_wp2
  go_loopw [1, 5] (fun u v wr => ∃ k : Nat, k ≤ len ∧ v = .int .i64 k ∧ u = .int .i64 (n + 3 * k) ∧ Ex w wr) (fun _ v _ => len - (intOf v).toNat)
  case atStart => exact ⟨0, Nat.zero_le _, rfl, by simp, Ex.refl _⟩
  case round =>
    obtain ⟨k, hk, rfl, rfl, ⟨x, rfl⟩⟩ := hrel
    by_cases hlt : k < len
    · obtain ⟨b, o, rfl, hb, h1, h2, h3⟩ := Hz.out.at3 (marksI_length _ _) hlt
      rw [marksI_getD _ _ _ (by omega), show n + ((k * 3 : Nat) : Int) = n + 3 * k by omega] at h1
      rw [marksI_getD _ _ _ (by omega), show n + ((k * 3 + 1 : Nat) : Int) = n + 3 * k + 1 by omega] at h2
      rw [marksI_getD _ _ _ (by omega), show n + ((k * 3 + 2 : Nat) : Int) = n + 3 * k + 1 + 1 by omega] at h3
      go_wp2
      refine wp_loop_rounds 4 ?_
      iterate 4 (all_goals (try rw [rounds_succ]); go_wp2)
      go_roundw
      case rel => exact ⟨k + 1, by omega, by go_num, by go_num, by repeat (first | exact Ex.refl _ | refine Ex.ext ?_ _ | refine Ex.alloc ?_ _ | refine Ex.drew ?_)⟩
      case measure => simp [intOf]; omega
    · have : k = len := by omega
      subst this
      go_wp2
      go_ret
      exact ⟨rfl, by repeat (first | exact Ex.refl _ | refine Ex.ext ?_ _ | refine Ex.alloc ?_ _ | refine Ex.drew ?_)⟩

theorem setm3 {A : Array Value} {n : Int} {len k : Nat} (hk : k < len) (hs : k * 3 + 3 ≤ A.size) (h : ∀ j, j < k * 3 → A[j]? = (intVals (marksI n (len * 3)))[j]?) :
    ∀ j, j < (k + 1) * 3 → (((A.setIfInBounds (k * 3) (.int .i64 (n + 3 * k))).setIfInBounds (k * 3 + 1) (.int .i64 (n + 3 * k + 1))).setIfInBounds (k * 3 + 2) (.int .i64 (n + 3 * k + 1 + 1)))[j]? = (intVals (marksI n (len * 3)))[j]? := by
  intro j hj
  simp only [Array.getElem?_setIfInBounds, Array.size_setIfInBounds]
  by_cases e2 : k * 3 + 2 = j
  · subst e2; rw [if_pos rfl, if_pos (by omega), intVals_get _ _ (by rw [marksI_length]; omega), marksI_get, show n + ((k * 3 + 2 : Nat) : Int) = n + 3 * k + 1 + 1 by omega]
  rw [if_neg e2]
  by_cases e1 : k * 3 + 1 = j
  · subst e1; rw [if_pos rfl, if_pos (by omega), intVals_get _ _ (by rw [marksI_length]; omega), marksI_get, show n + ((k * 3 + 1 : Nat) : Int) = n + 3 * k + 1 by omega]
  rw [if_neg e1]
  by_cases e0 : k * 3 = j
  · subst e0; rw [if_pos rfl, if_pos (by omega), intVals_get _ _ (by rw [marksI_length]; omega), marksI_get, show n + ((k * 3 : Nat) : Int) = n + 3 * k by omega]
  rw [if_neg e0]
  exact h j (by omega)

theorem markA3S_c (zs : List Int) (p : Option Addr) (cap len : Nat) (n : Int) (lo hi : Nat) (w : World) (hn : len ≤ 1000000) (h0 : 0 ≤ n) (h1 : n ≤ 1000000000) (h : RowZ 68 3 lo hi w p cap len zs) :
    Calls Try.prog 34 #[.slice p len cap, .int .i64 n] w fun e w' => e = .returned (.int .i64 (n + 3 * len)) ∧ RowZ 68 3 lo hi w' p cap len (marksI n (len * 3)) ∧ Apart lo hi w w' := by
  have hlen := h.len
  rcases h.blk with ⟨rfl, rfl, rfl⟩ | ⟨g, cur, rfl, hg1, hg2, hg, hh, hc, hm, hs, ht⟩
  · have H := Lib.hid h
    clear h hlen
    go_enter Try.func34, Try.ntmps34
    go_wp2
    refine wp_loop_rounds 1 ?_
    rw [rounds_succ]
    go_wp2
    go_ret
    exact ⟨by simp, RowZ.nil _ _ _, rfl, rfl, rfl, Nat.le_refl _, fun _ _ _ => rfl⟩
  · have H := Lib.hid h
    have hset := setBlk_self hh
    have Hs := Lib.hid hs
    clear h ht hh hlen
    unfold maxLen at hm
    suffices hsuf : Calls Try.prog 34 #[.slice (some ⟨g, 0, none⟩) len cap, .int .i64 n] (setBlk w g (.cells cur 68 (0, 0))) fun e w' => e = .returned (.int .i64 (n + 3 * len)) ∧
        ∃ A, w' = setBlk w g (.cells A 68 (0, 0)) ∧ A.size = cap * 3 ∧ ∀ j, j < len * 3 → A[j]? = (intVals (marksI n (len * 3)))[j]? by
      rw [← hset] at hsuf
      refine hsuf.mono ?_
      rintro e w' ⟨rfl, A, rfl, h2, h3⟩
      exact ⟨rfl, rowZ_set H.out (by simp) h2 (by simpa using h3), rfl, rfl, rfl, by rw [setBlk_size]; exact Nat.le_refl _, fun k hk hk2 => by rw [setBlk_heap, if_neg (by omega)]⟩
    clear hset
    go_enter Try.func34, Try.ntmps34
    go_wp2
    go_loopw [1, 5] (fun u v wr => ∃ k : Nat, k ≤ len ∧ v = .int .i64 k ∧ u = .int .i64 (n + 3 * k) ∧ ∃ A, wr = setBlk w g (.cells A 68 (0, 0)) ∧ A.size = cap * 3 ∧ ∀ j, j < k * 3 → A[j]? = (intVals (marksI n (len * 3)))[j]?) (fun _ v _ => len - (intOf v).toNat)
    case atStart => exact ⟨0, Nat.zero_le _, rfl, by simp, cur, rfl, Hs.out, fun j hj => by omega⟩
    case round =>
      obtain ⟨k, hk, rfl, rfl, A, rfl, hA, hf⟩ := hrel
      have Hf := Lib.hid hf
      have HA := Lib.hid hA
      clear hf hs Hs
      by_cases hlt : k < len
      · obtain ⟨u1, e1⟩ : ∃ u, A[k * 3]? = some u := ⟨_, Array.getElem?_eq_getElem (by omega)⟩
        obtain ⟨u2, e2⟩ : ∃ u, A[k * 3 + 1]? = some u := ⟨_, Array.getElem?_eq_getElem (by omega)⟩
        obtain ⟨u3, e3⟩ : ∃ u, A[k * 3 + 2]? = some u := ⟨_, Array.getElem?_eq_getElem (by omega)⟩
        clear hA
        go_wp2
        refine wp_loop_rounds 4 ?_
        iterate 4 (all_goals (try rw [rounds_succ]); go_wp2)
        go_roundw
        case rel =>
          refine ⟨k + 1, by omega, by go_num, by go_num, _, rfl, ?_, ?_⟩
          · simp only [Array.size_setIfInBounds]; exact HA.out
          · exact setm3 hlt (by rw [HA.out]; omega) Hf.out
        case measure => simp [intOf]; omega
      · have : k = len := by omega
        subst this
        clear hA
        go_wp2
        go_ret
        exact ⟨rfl, A, rfl, HA.out, Hf.out⟩
end Go.Proofs.Ytdnnjhgkcchcaaa
