/- The text of a card: the walks of spec.l2Text and impl.cardText. -/
import Derived.Test.YtnjfkgggebhelaaCard
import Derived.Test.YtnjfkgggebhelaaApp
import Derived.Test.YtnjfkgggebhelaaNum
import Derived.Lib.SlBytesRow
namespace Go.Proofs.Ytnjfkgggebhelaa
set_option linter.unusedSimpArgs false
set_option linter.unusedVariables false
set_option maxHeartbeats 1000000
open Go.RowKit

theorem rowU8 : RowT Try.prog 95 5 1 1 :=
  ⟨Try.underlying95, by
    have h : (Try.prog.info? 5).map (fun i => (i.zero, i.size, i.bytes)) = some (some (.int .u8 0), 1, 1) := by kernel_rfl
    obtain ⟨i, h1, h2, h3, h4⟩ := info_parts h
    exact ⟨i, _, h1, h2, h3, h4, rfl⟩, by decide⟩

/-- A row of bytes, made a string. -/
theorem own_str {B n : Nat} {v : Value} {w : World} (l : List UInt8) (h : w.ownsRow B 5 1 v n (l.map fun c => .int .u8 (c.toNat : Int))) (hn : 0 < n) :
    (convert 95 9 v).run Try.prog w = .ok (.string ⟨l.toArray⟩) w := by
  obtain ⟨h1, h2⟩ := h
  have hl : l.length = n := by simpa using h1
  rcases h2 with ⟨_, h2⟩ | ⟨g, cap, cur, rfl, hb, hh, hc, hm, hcs, ht⟩
  · omega
  · have hz : (⟨l.toArray⟩ : ByteArray).size = n := by simp [ByteArray.size, hl]
    rw [← hz]
    refine Lib.run_convert_whole w _ 5 _ Try.underlying95 Try.underlying5 Try.underlying9 g 0 _ (fun i hi => ?_) cap
    rw [hz] at hi
    have e : cur[i]? = (cur.toList.take (n * 1))[i]? := by rw [List.getElem?_take, if_pos (by omega), Array.getElem?_toList]
    simp only [World.cell?, hh, Nat.zero_add]
    rw [ht] at e
    simp only [Option.isSome_none, Bool.false_eq_true, if_false]
    rw [e, List.getElem?_map, List.getElem?_eq_getElem (by omega)]
    rfl

/-- The text of a card. -/
def textC (c : C4) : List UInt8 := [dig c.a.toNat, dig c.b.toNat, dig c.c.toNat, dig c.d.toNat]
theorem dig_of {t : Int} (h0 : 0 ≤ t) (h2 : t ≤ 2) : ((dig t.toNat).toNat : Int) = 48 + t := by
  have : t = 0 ∨ t = 1 ∨ t = 2 := by omega
  rcases this with rfl | rfl | rfl <;> rfl

theorem l2Text_c (c : C4) (h : Ok c) (w : World) : Calls Try.prog 108 #[.agg #[.int .i64 c.a, .int .i64 c.b, .int .i64 c.c, .int .i64 c.d]] w fun e w' => e = .returned (.string ⟨(textC c).toArray⟩) ∧ Ex w w' := by
  have e : (⟨(textC c).toArray⟩ : ByteArray) = ((({ data := #[] } ++ txt c.a) ++ txt c.b) ++ txt c.c) ++ txt c.d := by
    rw [txt_small h.a0 (by have := h.a2; omega), txt_small h.b0 (by have := h.b2; omega), txt_small h.c0 (by have := h.c2; omega), txt_small h.d0 (by have := h.d2; omega)]
    apply ByteArray.ext
    simp [textC]
  have He := Lib.hid e
  clear e
  obtain ⟨h1, h2, h3, h4, h5, h6, h7, h8⟩ := h
  have s1 := txt_size (n := c.a) (by omega) (by omega)
  have s2 := txt_size (n := c.b) (by omega) (by omega)
  have s3 := txt_size (n := c.c) (by omega) (by omega)
  have s4 := txt_size (n := c.d) (by omega) (by omega)
  go_enter Try.func108, Try.ntmps108
  go_wp2
  refine wp_loop_rounds 5 ?_
  iterate 5 (all_goals (try rw [rounds_succ]); go_wp2_with (go_at_call 134; refine (l1Num_c _ (by omega) (by omega) _).mono ?_; rintro e w' ⟨rfl, x, rfl⟩))
  go_ret
  exact ⟨by rw [He.out]; rfl, by repeat (first | exact Ex.refl _ | refine Ex.ext ?_ _ | refine Ex.alloc ?_ _ | refine Ex.drew ?_)⟩

theorem cardText_c (c : C4) (h : Ok c) (w : World) : Calls Try.prog 109 #[.agg #[.int .i64 c.a, .int .i64 c.b, .int .i64 c.c, .int .i64 c.d]] w fun e w' => e = .returned (.string ⟨(textC c).toArray⟩) ∧ Ex w w' := by
  obtain ⟨h1, h2, h3, h4, h5, h6, h7, h8⟩ := h
  go_enter Try.func109, Try.ntmps109
  go_wp2
  have own0 := own_empty' (w.alloc (.cells #[.int .i64 c.a, .int .i64 c.b, .int .i64 c.c, .int .i64 c.d] 29)) 5 1 (w.heap.size + 1) (by simp)
  have ex0 : Ex (w.alloc (.cells #[.int .i64 c.a, .int .i64 c.b, .int .i64 c.c, .int .i64 c.d] 29)) ((w.alloc (.cells #[.int .i64 c.a, .int .i64 c.b, .int .i64 c.c, .int .i64 c.d] 29)).alloc (.cells #[] 5)) := (Ex.refl _).alloc _
  refine wp_loop_rounds 5 ?_
  rw [rounds_succ]
  go_wp2_with (at_builtin; refine wp_append1 (nW := w.heap.size + 2) rowU8 (by simp [go_sem]) (by simp [go_sem]) ex0 rfl _ _ rfl _ 0 _ rfl own0 1 1 [.int .u8 (48 + c.a)] rfl rfl ?c1 ?c2 ?c3 ?_; (case c1 => (intro u hu; simp at hu; subst hu; rfl)); (case c2 => (unfold maxLen; omega)); (case c3 => omega); intro v1 x1 own1; simp only [List.cons_append, List.nil_append, Nat.zero_add, Nat.reduceAdd] at own1)
  clear own0
  rw [rounds_succ]
  go_wp2_with (at_builtin; refine wp_append1 (nW := w.heap.size + 1 + x1.sz) rowU8 (by simp [go_sem]) (by simp [go_sem]) ((Ex.refl _).ext _) rfl _ _ rfl _ 1 _ rfl own1 1 1 [.int .u8 (48 + c.b)] rfl rfl ?c1 ?c2 ?c3 ?_; (case c1 => (intro u hu; simp at hu; subst hu; rfl)); (case c2 => (unfold maxLen; omega)); (case c3 => omega); intro v2 x2 own2; simp only [List.cons_append, List.nil_append, Nat.zero_add, Nat.reduceAdd] at own2)
  clear own1
  rw [rounds_succ]
  go_wp2_with (at_builtin; refine wp_append1 (nW := w.heap.size + 1 + x2.sz) rowU8 (by simp [go_sem]) (by simp [go_sem]) ((Ex.refl _).ext _) rfl _ _ rfl _ 2 _ rfl own2 1 1 [.int .u8 (48 + c.c)] rfl rfl ?c1 ?c2 ?c3 ?_; (case c1 => (intro u hu; simp at hu; subst hu; rfl)); (case c2 => (unfold maxLen; omega)); (case c3 => omega); intro v3 x3 own3; simp only [List.cons_append, List.nil_append, Nat.zero_add, Nat.reduceAdd] at own3)
  clear own2
  rw [rounds_succ]
  go_wp2_with (at_builtin; refine wp_append1 (nW := w.heap.size + 1 + x3.sz) rowU8 (by simp [go_sem]) (by simp [go_sem]) ((Ex.refl _).ext _) rfl _ _ rfl _ 3 _ rfl own3 1 1 [.int .u8 (48 + c.d)] rfl rfl ?c1 ?c2 ?c3 ?_; (case c1 => (intro u hu; simp at hu; subst hu; rfl)); (case c2 => (unfold maxLen; omega)); (case c3 => omega); intro v4 x4 own4; simp only [List.cons_append, List.nil_append, Nat.zero_add, Nat.reduceAdd] at own4)
  clear own3
  have hs := own_str (textC c) (n := 4) (v := v4) (by simpa [textC, dig_of h1 h2, dig_of h3 h4, dig_of h5 h6, dig_of h7 h8] using own4) (by omega)
  clear own4
  rw [rounds_succ]
  go_wp2
  go_ret
  exact ⟨rfl, by repeat (first | exact Ex.refl _ | refine Ex.ext ?_ _ | refine Ex.alloc ?_ _ | refine Ex.drew ?_)⟩
end Go.Proofs.Ytnjfkgggebhelaa
