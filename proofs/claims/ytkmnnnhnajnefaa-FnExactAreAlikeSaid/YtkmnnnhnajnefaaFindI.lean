/- The program's search for a map, and the laws on FirstMap and AreAlike. -/
import Derived.Test.YtkmnnnhnajnefaaFindP
import Derived.Test.YtkmnnnhnajnefaaFindR
import Derived.Test.YtkmnnnhnajnefaaHeld
import Derived.OneCell
import Derived.Laws.Cover3
namespace Go.Proofs.Ytkmnnnhnajnefaa
set_option linter.unusedSimpArgs false
set_option linter.unusedVariables false
set_option maxHeartbeats 2000000
set_option maxRecDepth 100000
open Go.RowKit

theorem keeps_set (w : World) (B : Nat) (v : Value) : Keeps B w (w.setCell ⟨B, 0, none⟩ v) :=
  ⟨rfl, rfl, rfl, by simp, fun k hk hg => heap_setCell_other w _ k v hg⟩
theorem rowV3 : RowT Try.prog 82 37 3 24 :=
  ⟨Try.underlying82, by
    have h : (Try.prog.info? 37).map (fun i => (i.zero, i.size, i.bytes)) = some (some (.agg #[.int .i64 0, .int .i64 0, .int .i64 0]), 3, 24) := by kernel_rfl
    obtain ⟨i, h1, h2, h3, h4⟩ := info_parts h
    exact ⟨i, _, h1, h2, h3, h4, rfl⟩, by decide⟩
theorem Keeps.vk {w w' : World} {g B0 T : Nat} {C : Array Value} (h : Keeps g w w') (hg : B0 ≤ g) (hb : w.heap[g]? = some (.cells C T (0, 0))) (hT : T ≠ 3) : VK B0 w w' :=
  ⟨h.os, h.tape, h.output, h.size, fun k hk => by
    by_cases hkw : k < w.heap.size
    · exact h.block k hkw (by omega)
    · exact absurd (Array.getElem?_eq_some_iff.1 hb).1 (by omega), h.ki hb hT⟩
/-- The cells of rows of three numbers. -/
def vals3 : List (List Nat) → List Value
  | [] => []
  | P :: L => .int .i64 ((P.getD 0 0 : Nat) : Int) :: .int .i64 ((P.getD 1 0 : Nat) : Int) :: .int .i64 ((P.getD 2 0 : Nat) : Int) :: vals3 L
theorem vals3_snoc (P : List Nat) : ∀ L, vals3 (L ++ [P]) = vals3 L ++ [.int .i64 ((P.getD 0 0 : Nat) : Int), .int .i64 ((P.getD 1 0 : Nat) : Int), .int .i64 ((P.getD 2 0 : Nat) : Int)]
  | [] => rfl
  | Q :: L => by simp only [List.cons_append, vals3, vals3_snoc P L]
theorem vals3_len : ∀ L, (vals3 L).length = L.length * 3
  | [] => rfl
  | Q :: L => by simp only [vals3, List.length_cons, vals3_len L]; omega
theorem vals3_get : ∀ (L : List (List Nat)) (i : Nat) (h : i < L.length), (vals3 L)[i * 3]? = some (.int .i64 ((L[i].getD 0 0 : Nat) : Int)) ∧ (vals3 L)[i * 3 + 1]? = some (.int .i64 ((L[i].getD 1 0 : Nat) : Int)) ∧ (vals3 L)[i * 3 + 2]? = some (.int .i64 ((L[i].getD 2 0 : Nat) : Int))
  | [], i, h => by simp at h
  | Q :: L, 0, h => ⟨rfl, rfl, rfl⟩
  | Q :: L, i + 1, h => by
    have := vals3_get L i (by simpa using h)
    rw [show (i + 1) * 3 = i * 3 + 1 + 1 + 1 by omega]
    simpa [vals3] using this
theorem keeps_cell {w w' : World} {g b j : Nat} (h : Keeps g w w') (hb : b < w.heap.size) (hne : b ≠ g) : w'.cell? ⟨b, j, none⟩ = w.cell? ⟨b, j, none⟩ := by
  simp only [World.cell?]; rw [h.block b hb hne]
theorem box_three (w : World) (x y z : Int) (T : TypeId) : ∀ j u, [Value.int .i64 x, .int .i64 y, .int .i64 z][j]? = some u → (w.alloc (.cells #[.int .i64 x, .int .i64 y, .int .i64 z] T)).drew.cell? ⟨w.heap.size, j, none⟩ = some u := by
  intro j u hj
  match j, hj with
  | 0, hj => simp at hj; subst hj; go_simp
  | 1, hj => simp at hj; subst hj; go_simp
  | 2, hj => simp at hj; subst hj; go_simp
theorem one_three (x y z : Int) : ∀ u ∈ [Value.int .i64 x, .int .i64 y, .int .i64 z], u.oneCell' = true := by
  intro u hu; simp at hu; rcases hu with rfl | rfl | rfl <;> rfl
theorem keep_four {w w' : World} {g Bv gi : Nat} {v x y z : Value} (h : Keeps g w w') (hS : w.cell? ⟨Bv, 0, none⟩ = some v ∧ w.cell? ⟨gi, 0, none⟩ = some x ∧ w.cell? ⟨gi, 1, none⟩ = some y ∧ w.cell? ⟨gi, 2, none⟩ = some z) (h1 : Bv < w.heap.size) (h2 : gi < w.heap.size) (h3 : Bv ≠ g) (h4 : gi ≠ g) :
    w'.cell? ⟨Bv, 0, none⟩ = some v ∧ w'.cell? ⟨gi, 0, none⟩ = some x ∧ w'.cell? ⟨gi, 1, none⟩ = some y ∧ w'.cell? ⟨gi, 2, none⟩ = some z :=
  ⟨(keeps_cell h h1 h3).trans hS.1, (keeps_cell h h2 h4).trans hS.2.1, (keeps_cell h h2 h4).trans hS.2.2.1, (keeps_cell h h2 h4).trans hS.2.2.2⟩
/-- The box of the gathered orders, and its row. -/
def I1 (Bv B0 : Nat) (L : List (List Nat)) (w : World) : Prop := B0 ≤ Bv ∧ B0 ≤ w.heap.size ∧ L.length ≤ 100 ∧ ∃ g cap, w.heap[Bv]? = some (.cells #[.slice (some ⟨g, 0, none⟩) L.length cap] 82 (0, 0)) ∧ RowV 37 3 B0 w g cap L.length (vals3 L)
theorem maps1_call (Bv B0 : Nat) (P : List Nat) (L : List (List Nat)) (w : World) (v : Value) (hP : P ∈ ordV 3 3 []) (hL99 : L.length < 100) (hv : InP w v P) (hI : I1 Bv B0 L w) :
    Calls Try.prog 77 (#[v] ++ #[.pointer (some ⟨Bv, 0, none⟩)]) w fun e w' => e = .returned (.bool true) ∧ VK B0 w w' ∧ I1 Bv B0 (L ++ [P]) w' := by
  rw [six_ord] at hP
  obtain ⟨hp3, hp0, hp1, hp2⟩ := six_lt P hP
  obtain ⟨gi, ci, rfl, hci, hgi, hcl⟩ := inP_cells hv
  obtain ⟨gi', ci', A', e', _, hgh, _⟩ := hv
  simp at e'
  obtain ⟨rfl, rfl⟩ := e'
  have q0 := hcl 0 (by omega)
  have q1 := hcl 1 (by omega)
  have q2 := hcl 2 (by omega)
  rw [hp3] at hci ⊢
  have HV3 := Lib.hid (vals3_snoc P L)
  obtain ⟨hB, hBw, hL100, g, cap, hbox, hrow⟩ := hI
  have Hbox := Lib.hid hbox
  have hc := cell_of_one hbox
  have hf := free_of_one hbox
  obtain ⟨cur, hcur, _, hlo, hncap⟩ := hrow.curT
  have hgB : g ≠ Bv := fun e => by rw [e, hbox] at hcur; simp at hcur
  have HR := Lib.hid hrow
  have Hcur := Lib.hid hcur
  have hBlt : Bv < w.heap.size := (Array.getElem?_eq_some_iff.1 hbox).1
  have hgl : g < w.heap.size := (Array.getElem?_eq_some_iff.1 hcur).1
  have hgig : gi ≠ g := fun e => by rw [e, hcur] at hgh; simp at hgh
  clear hcl hbox hrow hcur hgh
  obtain ⟨N, hN⟩ : ∃ N, L.length = N := ⟨_, rfl⟩
  rw [hN] at Hbox hc HR hL99
  have HN := Lib.hid hN
  clear hN hL100 hncap
  generalize P.getD 0 0 = p0 at *
  generalize P.getD 1 0 = p1 at *
  generalize P.getD 2 0 = p2 at *
  have har : ∀ w : World, (Instr.arrayAt 37 (.slice (some ⟨gi, 0, none⟩) 3 ci)).run Try.prog w = .ok (.pointer (some ⟨gi, 0, none⟩)) w := fun w => run_arrayAt _ _ _ _ _ _ _ Try.underlying37 (Nat.le_refl 3)
  go_enter Try.func77, Try.ntmps77
  go_wp2
  (refine region_headH 6 (fun w' => w'.cell? ⟨Bv, 0, none⟩ = some (.slice (some ⟨g, 0, none⟩) N cap) ∧ w'.cell? ⟨gi, 0, none⟩ = some (.int .i64 p0) ∧ w'.cell? ⟨gi, 1, none⟩ = some (.int .i64 p1) ∧ w'.cell? ⟨gi, 2, none⟩ = some (.int .i64 p2)) (by kernel_rfl) (by kernel_rfl) (by first | (go_simp; done) | go_keep) (fun hHeld => ?_); simp only [List.size_toArray, List.length_cons, List.length_nil, Nat.zero_add, Nat.reduceAdd])
  (refine headH_take (i := 0) (v := ?_) (by kernel_rfl) (by omega) (by kernel_rfl) (by kernel_rfl) (fun _ _ _ h => h) (Or.inl ⟨by rfl, ?_⟩) (by assumption) ?_; rotate_left 1; (focus (intro w hSw; (try dsimp only at hSw); (try simp only [opOf_succ, opOf_zero]); go_simp <;> with_reducible rfl)); (try simp only [opOf_succ, opOf_zero, Act.put, List.setIfInBounds_toArray, List.set_cons_zero, List.set_cons_succ]))
  (refine headH_take (i := 1) (v := ?_) (by kernel_rfl) (by omega) (by kernel_rfl) (by kernel_rfl) (fun _ _ _ h => h) (Or.inl ⟨by rfl, ?_⟩) (by assumption) ?_; rotate_left 1; (focus (intro w hSw; (try dsimp only at hSw); (try simp only [opOf_succ, opOf_zero]); go_simp <;> with_reducible rfl)); (try simp only [opOf_succ, opOf_zero, Act.put, List.setIfInBounds_toArray, List.set_cons_zero, List.set_cons_succ]))
  (refine headH_take (i := 2) (v := ?_) (by kernel_rfl) (by omega) (by kernel_rfl) (by kernel_rfl) (fun _ _ _ h => h) (Or.inl ⟨by rfl, ?_⟩) (by assumption) ?_; rotate_left 1; (focus (intro w hSw; (try dsimp only at hSw); (try simp only [opOf_succ, opOf_zero]); go_simp <;> with_reducible rfl)); (try simp only [opOf_succ, opOf_zero, Act.put, List.setIfInBounds_toArray, List.set_cons_zero, List.set_cons_succ]))
  (refine headH_take (i := 3) (v := ?_) (by kernel_rfl) (by omega) (by kernel_rfl) (by kernel_rfl) (fun _ _ _ h => h) (Or.inl ⟨by rfl, ?_⟩) (by assumption) ?_; rotate_left 1; (focus (intro w hSw; (try dsimp only at hSw); (try simp only [opOf_succ, opOf_zero]); go_simp <;> with_reducible rfl)); (try simp only [opOf_succ, opOf_zero, Act.put, List.setIfInBounds_toArray, List.set_cons_zero, List.set_cons_succ]))
  (refine headH_one (i := 4) (by kernel_rfl) (by omega) (by simp only [List.length_cons, List.length_nil]; omega) (fun Kx hKx => ?_); (try simp (config := { proj := false }) only [opOf_succ, opOf_zero]); go_simp; refine hKx.out _ _ (by first | (go_simp; done) | go_keep) (fun hHeld => ?_); clear hKx Kx; (try simp only [Act.put, List.setIfInBounds_toArray, List.set_cons_zero, List.set_cons_succ]))
  (refine headH_one (i := 5) (by kernel_rfl) (by omega) (by simp only [List.length_cons, List.length_nil]; omega) (fun Kx hKx => ?_); (try simp (config := { proj := false }) only [opOf_succ, opOf_zero]); (refine step_app rowV3 (by rfl) _ _ (by rfl) (by rfl) (HR.out.ex (by exact by repeat (first | exact Ex.refl _ | refine Ex.ext ?_ _ | refine Ex.alloc ?_ _ | refine Ex.drew ?_))) _ 1 1 [.int .i64 (p0 : Int), .int .i64 (p1 : Int), .int .i64 (p2 : Int)] (by rfl) (by rfl) (box_three _ _ _ _ _) (one_three _ _ _) (by omega) (by unfold maxLen; omega) (by omega) ?_; intro gA cA wA hrA hKA hgA; have hSA := keep_four hKA hHeld (by simp; omega) (by simp; omega) (Ne.symm hgB) hgig); refine hKx.out _ _ hSA (fun hHeld => ?_); clear hKx Kx; (try simp only [Act.put, List.setIfInBounds_toArray, List.set_cons_zero, List.set_cons_succ]))
  (refine headH_done (by kernel_rfl) ?_; simp only [List.drop_succ_cons, List.drop_zero])
  have hE1 : Ex w (w.alloc (.cells #[.int .i64 (p0 : Int), .int .i64 (p1 : Int), .int .i64 (p2 : Int)] 37)).drew := by repeat (first | exact Ex.refl _ | refine Ex.ext ?_ _ | refine Ex.alloc ?_ _ | refine Ex.drew ?_)
  have hboxA := (hKA.block Bv (by simp; omega) (Ne.symm hgB)).trans ((hE1.below.block Bv hBlt).trans Hbox.out)
  have hcurA := (hE1.below.block g hgl).trans Hcur.out
  have hcA := cell_of_one hboxA
  have hfA := free_of_one hboxA
  clear hSA hHeld hc hf q0 q1 q2
  go_wp2
  go_ret
  have hs1 := hE1.below.size
  have hsA := hKA.size
  have hv := ((hE1.vk hBw).trans (hKA.vk hlo hcurA (by decide))).trans ((keeps_set wA Bv (.slice (some ⟨gA, 0, none⟩) (N + 1) cA)).vk hB hboxA (by decide))
  have hl : (L ++ [P]).length = N + 1 := by simp [HN.out]
  refine ⟨rfl, hv, hB, Nat.le_trans hBw hv.size, by rw [hl]; omega, gA, cA, ?_, ?_⟩
  · rw [hl]; exact one_setCell hboxA
  · rw [hl, HV3.out]
    refine hrA.keeps (keeps_set _ _ _) ?_
    rcases hgA with h | h
    · rw [h]; exact hgB
    · rw [h]; simp; omega
end Go.Proofs.Ytkmnnnhnajnefaa

namespace Go.Proofs.Ytkmnnnhnajnefaa
set_option linter.unusedSimpArgs false
set_option linter.unusedVariables false
set_option maxHeartbeats 2000000
set_option maxRecDepth 100000
open Go.RowKit

/-- All blocks but two are as they were. -/
structure Keeps2 (a b : Nat) (w w' : World) : Prop where
  os : w'.os = w.os
  tape : w'.tape = w.tape
  output : w'.output = w.output
  size : w.heap.size ≤ w'.heap.size
  block : ∀ k, k < w.heap.size → k ≠ a → k ≠ b → w'.heap[k]? = w.heap[k]?
theorem Keeps2.trans {a b : Nat} {u v w : World} (h : Keeps2 a b u v) (k : Keeps2 a b v w) : Keeps2 a b u w :=
  ⟨k.os.trans h.os, k.tape.trans h.tape, k.output.trans h.output, Nat.le_trans h.size k.size, fun i hi h1 h2 => (k.block i (Nat.lt_of_lt_of_le hi h.size) h1 h2).trans (h.block i hi h1 h2)⟩
theorem Ex.keeps2 {a b : Nat} {w w' : World} (h : Ex w w') : Keeps2 a b w w' := ⟨h.below.os, h.below.tape, h.below.output, h.below.size, fun k hk _ _ => h.below.block k hk⟩
theorem Keeps.two1 {a b : Nat} {w w' : World} (h : Keeps a w w') : Keeps2 a b w w' := ⟨h.os, h.tape, h.output, h.size, fun k hk h1 _ => h.block k hk h1⟩
theorem Keeps.two2 {a b : Nat} {w w' : World} (h : Keeps b w w') : Keeps2 a b w w' := ⟨h.os, h.tape, h.output, h.size, fun k hk _ h2 => h.block k hk h2⟩
/-- The boxes of FirstMap: found, one hand, the other, the map. -/
structure FmI (w0 : World) (b7 b2 b3 b6 : Nat) (p q : Option Addr) (n n2 cap cap2 : Nat) (fd : Bool) (out : Nat → Int) (w : World) : Prop where
  below : Below w0.heap.size w0 w
  l7 : w0.heap.size ≤ b7
  l6 : w0.heap.size ≤ b6
  ne : b6 ≠ b7
  h7 : w.heap[b7]? = some (.cells #[.bool fd] 4 (0, 0))
  h2 : w.heap[b2]? = some (.cells #[.slice p n cap] 22 (0, 0))
  h3 : w.heap[b3]? = some (.cells #[.slice q n2 cap2] 22 (0, 0))
  h6 : w.heap[b6]? = some (.cells (mcells out) 44 (0, 0))
theorem FmI.ex {w0 : World} {b7 b2 b3 b6 : Nat} {p q : Option Addr} {n n2 cap cap2 : Nat} {fd : Bool} {out : Nat → Int} {w w' : World} (h : FmI w0 b7 b2 b3 b6 p q n n2 cap cap2 fd out w) (k : Ex w w') : FmI w0 b7 b2 b3 b6 p q n n2 cap cap2 fd out w' :=
  ⟨below_ex h.below k, h.l7, h.l6, h.ne, (k.below.block _ (Array.getElem?_eq_some_iff.1 h.h7).1).trans h.h7, (k.below.block _ (Array.getElem?_eq_some_iff.1 h.h2).1).trans h.h2, (k.below.block _ (Array.getElem?_eq_some_iff.1 h.h3).1).trans h.h3, (k.below.block _ (Array.getElem?_eq_some_iff.1 h.h6).1).trans h.h6⟩
theorem FmI.set7 {w0 : World} {b7 b2 b3 b6 : Nat} {p q : Option Addr} {n n2 cap cap2 : Nat} {fd : Bool} {out : Nat → Int} {w : World} (h : FmI w0 b7 b2 b3 b6 p q n n2 cap cap2 fd out w) (fd' : Bool) : FmI w0 b7 b2 b3 b6 p q n n2 cap cap2 fd' out (w.setCell ⟨b7, 0, none⟩ (.bool fd')) := by
  have k := keeps_set w b7 (.bool fd')
  have n2 : b2 ≠ b7 := fun e => by have := h.h2; rw [e, h.h7] at this; simp at this
  have n3 : b3 ≠ b7 := fun e => by have := h.h3; rw [e, h.h7] at this; simp at this
  refine ⟨?_, h.l7, h.l6, h.ne, one_setCell h.h7, (k.block _ (Array.getElem?_eq_some_iff.1 h.h2).1 n2).trans h.h2, (k.block _ (Array.getElem?_eq_some_iff.1 h.h3).1 n3).trans h.h3, (k.block _ (Array.getElem?_eq_some_iff.1 h.h6).1 h.ne).trans h.h6⟩
  have hb := h.below
  have := h.l7
  exact ⟨k.os.trans hb.os, k.tape.trans hb.tape, k.output.trans hb.output, Nat.le_trans hb.size k.size, fun i hi => (k.block i (by have := hb.size; omega) (by omega)).trans (hb.block i hi)⟩
theorem FmI.set6 {w0 : World} {b7 b2 b3 b6 : Nat} {p q : Option Addr} {n n2 cap cap2 : Nat} {fd : Bool} {out : Nat → Int} {w : World} (h : FmI w0 b7 b2 b3 b6 p q n n2 cap cap2 fd out w) (m : Nat → Int) : FmI w0 b7 b2 b3 b6 p q n n2 cap cap2 fd m (w.setRow b6 (mcells m)) := by
  have k : Keeps b6 w (w.setRow b6 (mcells m)) := setRow_keeps
  have n2 : b2 ≠ b6 := fun e => by have := h.h2; rw [e, h.h6] at this; simp at this
  have n3 : b3 ≠ b6 := fun e => by have := h.h3; rw [e, h.h6] at this; simp at this
  refine ⟨?_, h.l7, h.l6, h.ne, (k.block _ (Array.getElem?_eq_some_iff.1 h.h7).1 (Ne.symm h.ne)).trans h.h7, (k.block _ (Array.getElem?_eq_some_iff.1 h.h2).1 n2).trans h.h2, (k.block _ (Array.getElem?_eq_some_iff.1 h.h3).1 n3).trans h.h3, heap_setRow h.h6⟩
  have hb := h.below
  have := h.l6
  exact ⟨k.os.trans hb.os, k.tape.trans hb.tape, k.output.trans hb.output, Nat.le_trans hb.size k.size, fun i hi => (k.block i (by have := hb.size; omega) (by omega)).trans (hb.block i hi)⟩
theorem hit_drop {m : Nat → Int} {gs hs : List C4} {k : Nat} (hk : k < gs.length) : hitB m (gs.drop k) hs = (hasB hs (img m gs[k]) && hitB m (gs.drop (k + 1)) hs) := by
  rw [List.drop_eq_getElem_cons hk]
  rfl
def pickM (b : Bool) (m out : Nat → Int) : Nat → Int := if b then m else out
theorem fm1_c (w0 : World) (b7 b2 b3 b6 : Nat) (gs hs : List C4) (p q : Option Addr) (cap cap2 : Nat) (hn : gs.length ≤ 27) (hn2 : hs.length ≤ 27) (hok : ∀ z ∈ gs, Ok z) (hz : Sl w0 p gs) (hy : Sl w0 q hs) (m : Nat → Int) (hm : mapB m = true) (fd : Bool) (out : Nat → Int) (w : World) (hI : FmI w0 b7 b2 b3 b6 p q gs.length hs.length cap cap2 fd out w) :
    Calls Try.prog 57 (#[.agg (mcells m)] ++ #[.pointer (some ⟨b7, 0, none⟩), .pointer (some ⟨b2, 0, none⟩), .pointer (some ⟨b3, 0, none⟩), .pointer (some ⟨b6, 0, none⟩)]) w fun e w' => e = .returned (.bool (!hitB m gs hs)) ∧ Keeps2 b6 b7 w w' ∧ FmI w0 b7 b2 b3 b6 p q gs.length hs.length cap cap2 (hitB m gs hs) (pickM (hitB m gs hs) m out) w' := by
  have Hz := Lib.hid hz
  have Hy := Lib.hid hy
  have Hok := Lib.hid hok
  have Hm := Lib.hid hm
  have HI := Lib.hid hI
  have hl7 := (Array.getElem?_eq_some_iff.1 hI.h7).1
  have hl2 := (Array.getElem?_eq_some_iff.1 hI.h2).1
  have hl3 := (Array.getElem?_eq_some_iff.1 hI.h3).1
  have hl6 := (Array.getElem?_eq_some_iff.1 hI.h6).1
  have hc7 := cell_of_one hI.h7
  have hf7 := free_of_one hI.h7
  have hc2 := cell_of_one hI.h2
  have hn7 : b2 ≠ b7 := fun e => by have := hI.h2; rw [e, hI.h7] at this; simp at this
  clear hz hy hok hm hI
  go_enter Try.func57, Try.ntmps57
  go_wp2
  clear hc7 hf7 hc2
  go_loopw [11] (fun v wr => ∃ k : Nat, k ≤ gs.length ∧ v = .int .i64 k ∧ FmI w0 b7 b2 b3 b6 p q gs.length hs.length cap cap2 true out wr ∧ Keeps2 b6 b7 w wr ∧ wr.heap[w.heap.size]? = some (.cells (mcells m) 44 (0, 0)) ∧ hitB m gs hs = hitB m (gs.drop k) hs) (fun v _ => gs.length - (intOf v).toNat)
  case atStart =>
    refine ⟨0, Nat.zero_le _, rfl, (HI.out.set7 true).ex (by exact by repeat (first | exact Ex.refl _ | refine Ex.ext ?_ _ | refine Ex.alloc ?_ _ | refine Ex.drew ?_)), (Keeps.two2 (keeps_set w b7 (.bool true))).trans (Ex.keeps2 (by exact by repeat (first | exact Ex.refl _ | refine Ex.ext ?_ _ | refine Ex.alloc ?_ _ | refine Ex.drew ?_))), ?_, rfl⟩
    have := heap_alloc_new (w.setCell ⟨b7, 0, none⟩ (.bool true)) (.cells (mcells m) 44)
    simpa using this
  case round =>
    obtain ⟨k, hk, rfl, hI, hK, hM, hh⟩ := hrel
    have HI' := Lib.hid hI
    have HK := Lib.hid hK
    have HM := Lib.hid hM
    have HH := Lib.hid hh
    have hi1 := isRow_of (n := 16) hM rfl
    have hi2 := rowAt_of hM
    have hlm := (Array.getElem?_eq_some_iff.1 hM).1
    have hlm2 : w.heap.size < wr.heap.size + 1 := by omega
    have hlm3 : w.heap.size ≤ wr.heap.size := by omega
    have hlm4 : w.heap.size ≠ wr.heap.size := by omega
    have hr3 := (Array.getElem?_eq_some_iff.1 hI.h3).1
    have hr7 := (Array.getElem?_eq_some_iff.1 hI.h7).1
    have hc3 := cell_of_one hI.h3
    have hc7 := cell_of_one hI.h7
    have hf7 := free_of_one hI.h7
    have Hyr := Lib.hid (Hy.out.below hI.below)
    clear hI hK hM hh
    by_cases hlt : k < gs.length
    · obtain ⟨b, o, rfl, hb, c1, c2, c3, c4⟩ := (Hz.out.below HI'.out.below) k hlt
      have Hokz := Lib.hid (Hok.out _ (List.getElem_mem hlt))
      have HD := Lib.hid (hit_drop (m := m) (hs := hs) hlt)
      generalize gs[k] = z at *
      have HC := Lib.hid (fun W (hW : Ex wr W) => has_c hs (img m z) q cap2 W (by omega) (Hyr.out.ex hW))
      have HG := Lib.hid (fun W => image_c (c := z) Hm.out Hokz.out W)
      cases hhas : hasB hs (img m z)
      · have Hhit := Lib.hid (show hitB m gs hs = false by rw [HH.out, HD.out, hhas]; rfl)
        rw [hhas] at HC
        clear hhas
        go_upto_region 6 with (refine region_quiet (by kernel_rfl) (by kernel_rfl) ?_; (repeat (go_big_quiet_step (first | (go_at_call 59; exact (HG.out _).mono (by rintro e w' ⟨rfl, y, rfl⟩; exact ⟨rfl, by simp only [ext_ext, Ext.app_assoc]; exact ⟨_, rfl⟩⟩)) | (go_at_call 58; exact (HC.out _ (by exact by repeat (first | exact Ex.refl _ | refine Ex.ext ?_ _ | refine Ex.alloc ?_ _ | refine Ex.drew ?_))).mono (by rintro e w' ⟨rfl, y, rfl⟩; exact ⟨rfl, by simp only [ext_ext, Ext.app_assoc]; exact ⟨_, rfl⟩⟩))))); refine wpQuiet_nil ?_; rintro _ ⟨x, rfl⟩)
        obtain ⟨w5, hw5⟩ : ∃ w5, ext (wr.alloc (.cells #[.int .i64 z.a, .int .i64 z.b, .int .i64 z.c, .int .i64 z.d] 36)) x = w5 := ⟨_, rfl⟩
        rw [hw5]
        have hE5 : Ex wr w5 := by rw [← hw5]; exact by repeat (first | exact Ex.refl _ | refine Ex.ext ?_ _ | refine Ex.alloc ?_ _ | refine Ex.drew ?_)
        have HI5 := Lib.hid (HI'.out.ex hE5)
        have hc75 := cell_of_one HI5.out.h7
        have hf75 := free_of_one HI5.out.h7
        have hc76 := cell_of_one (HI5.out.set7 false).h7
        clear hw5 hc7 hf7 hi1 hi2 hc3 c1 c2 c3 c4
        go_wp2
        go_ret
        rw [Hhit.out]
        exact ⟨rfl, (HK.out.trans hE5.keeps2).trans (keeps_set w5 b7 (.bool false)).two2, HI5.out.set7 false⟩
      · have HH2 := Lib.hid (show hitB m gs hs = hitB m (gs.drop (k + 1)) hs by rw [HH.out, HD.out, hhas]; rfl)
        rw [hhas] at HC
        clear hhas
        go_wp2_with (refine region_quiet (by kernel_rfl) (by kernel_rfl) ?_; (repeat (go_big_quiet_step (first | (go_at_call 59; exact (HG.out _).mono (by rintro e w' ⟨rfl, y, rfl⟩; exact ⟨rfl, by simp only [ext_ext, Ext.app_assoc]; exact ⟨_, rfl⟩⟩)) | (go_at_call 58; exact (HC.out _ (by exact by repeat (first | exact Ex.refl _ | refine Ex.ext ?_ _ | refine Ex.alloc ?_ _ | refine Ex.drew ?_))).mono (by rintro e w' ⟨rfl, y, rfl⟩; exact ⟨rfl, by simp only [ext_ext, Ext.app_assoc]; exact ⟨_, rfl⟩⟩))))); refine wpQuiet_nil ?_; rintro _ ⟨x, rfl⟩)
        go_roundw
        case rel =>
          have hE5 : Ex wr (ext (wr.alloc (.cells #[.int .i64 z.a, .int .i64 z.b, .int .i64 z.c, .int .i64 z.d] 36)) x) := by repeat (first | exact Ex.refl _ | refine Ex.ext ?_ _ | refine Ex.alloc ?_ _ | refine Ex.drew ?_)
          exact ⟨k + 1, by omega, by go_num, HI'.out.ex hE5, HK.out.trans hE5.keeps2, (hE5.below.block _ hlm).trans HM.out, HH2.out⟩
        case measure => simp [intOf]; omega
    · have : k = gs.length := by omega
      subst this
      have Hhit := Lib.hid (show hitB m gs hs = true by rw [HH.out, List.drop_length]; rfl)
      have hj1 := isRow_of (n := 16) HI'.out.h6 rfl
      have hc76 := cell_of_one (HI'.out.set6 m).h7
      clear hc3
      go_wp2
      go_ret
      rw [Hhit.out]
      exact ⟨rfl, HK.out.trans (Keeps.two1 setRow_keeps), HI'.out.set6 m⟩
end Go.Proofs.Ytkmnnnhnajnefaa

namespace Go.Proofs.Ytkmnnnhnajnefaa
set_option linter.unusedSimpArgs false
set_option linter.unusedVariables false
set_option maxHeartbeats 4000000
set_option maxRecDepth 100000
open Go.RowKit

/-- A map with other values. -/
def overV (F V : Nat → Int) : Nat → Int := fun j => if j < 4 then F j else V (j - 4)
theorem run_store_v4 {P : Program} (w : World) (b : Nat) (F V : Nat → Int) (h : isRow w b 16 = true) (hr : rowAt w b = mcells F) : (storeCells ⟨b, 4, none⟩ (vcells V).toList).run P w = .ok () (w.setRow b (mcells (overV F V))) := by
  obtain ⟨A, T, hb, hs⟩ := isRow_blk h
  have hA : A = mcells F := by rw [← hr, rowAt_of hb]
  subst hA
  rw [run_storeCells_at (P := P) b 4 T (vcells V).toList 0 _ w hb (by simp [vcells, mcells]) (by intro v hv; simp [vcells] at hv; rcases hv with rfl | rfl | rfl | rfl | rfl | rfl | rfl | rfl | rfl | rfl | rfl | rfl <;> rfl)]
  congr 2
theorem find_first {α : Type} {q : α → Bool} {F : Nat → α} {n k : Nat} (hk : k < n) (h : ∀ j, j < k → q (F j) = false) (hq : q (F k) = true) : ((List.range n).map F).find? q = some (F k) := by
  obtain ⟨d, rfl⟩ : ∃ d, n = k + (d + 1) := ⟨n - k - 1, by omega⟩
  rw [List.range_add, List.map_append, List.find?_append]
  have h0 : ((List.range k).map F).find? q = none := by
    rw [List.find?_eq_none]
    intro x hx
    obtain ⟨j, hj, rfl⟩ := List.mem_map.1 hx
    rw [h j (List.mem_range.1 hj)]; simp
  rw [h0, List.range_succ_eq_map, List.map_map, List.map_cons, List.find?_cons]
  simp [hq]
theorem find_nope {α : Type} {q : α → Bool} {F : Nat → α} {n : Nat} (h : ∀ j, j < n → q (F j) = false) : ((List.range n).map F).find? q = none := by
  rw [List.find?_eq_none]
  intro x hx
  obtain ⟨j, hj, rfl⟩ := List.mem_map.1 hx
  rw [h j (List.mem_range.1 hj)]; simp
/-- The first map with some traits that is looked for. -/
def gotM (gs hs : List C4) (P : List Nat) : Option (Nat → Int) := (goOn 4 (m0 P)).find? fun m => hitB m gs hs
/-- The boxes of maps, beside those of FirstMap. -/
structure MpI (w0 : World) (b7 b2 b3 b6 Bv Bf : Nat) (p q : Option Addr) (n n2 cap cap2 : Nat) (s : Bool × (Nat → Int)) (w : World) : Prop where
  fm : FmI w0 b7 b2 b3 b6 p q n n2 cap cap2 s.1 s.2 w
  lv : w0.heap.size ≤ Bv
  row : ∃ g capv, w.heap[Bv]? = some (.cells #[.slice (some ⟨g, 0, none⟩) 6 capv] 82 (0, 0)) ∧ RowV 37 3 w0.heap.size w g capv 6 (vals3 six)
  vis : w.heap[Bf]? = some (.cells #[.func (.func 57) #[] #[.pointer (some ⟨b7, 0, none⟩), .pointer (some ⟨b2, 0, none⟩), .pointer (some ⟨b3, 0, none⟩), .pointer (some ⟨b6, 0, none⟩)]] 62 (0, 0))

theorem row3_cells {lo g cap : Nat} {w : World} {L : List (List Nat)} {n : Nat} (h : RowV 37 3 lo w g cap n (vals3 L)) (hn : n = L.length) : ∀ a, a < n → w.cell? ⟨g, a * 3, none⟩ = some (.int .i64 (((L.getD a []).getD 0 0 : Nat) : Int)) ∧ w.cell? ⟨g, a * 3 + 1, none⟩ = some (.int .i64 (((L.getD a []).getD 1 0 : Nat) : Int)) ∧ w.cell? ⟨g, a * 3 + 2, none⟩ = some (.int .i64 (((L.getD a []).getD 2 0 : Nat) : Int)) := by
  intro a ha
  obtain ⟨cur, h1, h2, _, _⟩ := h.curT
  have hal : a < L.length := by omega
  obtain ⟨e0, e1, e2⟩ := vals3_get L a hal
  have hg : L[a] = L.getD a [] := by rw [List.getD_eq_getElem?_getD, List.getElem?_eq_getElem hal]; rfl
  rw [hg, ← h2, List.getElem?_take, if_pos (by omega), Array.getElem?_toList] at e0 e1 e2
  simp only [World.cell?, h1]
  exact ⟨e0, e1, e2⟩
theorem over_dec {F f : Nat → Int} (h : ∀ j, j < 4 → F j = f j) (A B C D : List Nat) : mcells (overV F (upd (upd (upd (upd (upd (upd (upd (upd (upd (upd (upd (upd mzero 0 ((A.getD 0 0 : Nat) : Int)) 1 ((A.getD 1 0 : Nat) : Int)) 2 ((A.getD 2 0 : Nat) : Int)) 3 ((B.getD 0 0 : Nat) : Int)) 4 ((B.getD 1 0 : Nat) : Int)) 5 ((B.getD 2 0 : Nat) : Int)) 6 ((C.getD 0 0 : Nat) : Int)) 7 ((C.getD 1 0 : Nat) : Int)) 8 ((C.getD 2 0 : Nat) : Int)) 9 ((D.getD 0 0 : Nat) : Int)) 10 ((D.getD 1 0 : Nat) : Int)) 11 ((D.getD 2 0 : Nat) : Int))) = mcells (setv (setv (setv (setv f 0 A) 1 B) 2 C) 3 D) := by
  refine mcells_eq fun j hj => ?_
  rcases nat16 hj with rfl | rfl | rfl | rfl | rfl | rfl | rfl | rfl | rfl | rfl | rfl | rfl | rfl | rfl | rfl | rfl
  · exact h 0 (by omega)
  · exact h 1 (by omega)
  · exact h 2 (by omega)
  · exact h 3 (by omega)
  all_goals rfl
theorem dec4_low (f : Nat → Int) (n j : Nat) (h : j < 4) : dec4 f n j = f j := by
  unfold dec4 setv
  rw [if_neg (by omega), if_neg (by omega), if_neg (by omega), if_neg (by omega)]
theorem MpI.keeps {w0 : World} {b7 b2 b3 b6 Bv Bf : Nat} {p q : Option Addr} {n n2 cap cap2 : Nat} {s : Bool × (Nat → Int)} {w w' : World} {b : Nat} {C : Array Value} (h : MpI w0 b7 b2 b3 b6 Bv Bf p q n n2 cap cap2 s w) (k : Keeps b w w') (hb : w0.heap.size ≤ b) (hC : w.heap[b]? = some (.cells C 44 (0, 0))) (h6 : b6 ≠ b) : MpI w0 b7 b2 b3 b6 Bv Bf p q n n2 cap cap2 s w' := by
  have hf := h.fm
  have key : ∀ (c : Nat) (A : Array Value) (T : Nat), w.heap[c]? = some (.cells A T (0, 0)) → T ≠ 44 → w'.heap[c]? = some (.cells A T (0, 0)) := fun c A T hc hT => by
    have hne : c ≠ b := fun e => by rw [e, hC] at hc; simp at hc; exact hT hc.2.symm
    exact (k.block c (Array.getElem?_eq_some_iff.1 hc).1 hne).trans hc
  obtain ⟨g, capv, h1, h2⟩ := h.row
  obtain ⟨cur, hcur, _⟩ := h2.curT
  refine ⟨⟨?_, hf.l7, hf.l6, hf.ne, key _ _ _ hf.h7 (by decide), key _ _ _ hf.h2 (by decide), key _ _ _ hf.h3 (by decide), (k.block _ (Array.getElem?_eq_some_iff.1 hf.h6).1 h6).trans hf.h6⟩, h.lv, ⟨g, capv, key _ _ _ h1 (by decide), h2.keeps k (fun e => by rw [e, hC] at hcur; simp at hcur)⟩, key _ _ _ h.vis (by decide)⟩
  have hbl := hf.below
  exact ⟨k.os.trans hbl.os, k.tape.trans hbl.tape, k.output.trans hbl.output, Nat.le_trans hbl.size k.size, fun i hi => (k.block i (by have := hbl.size; omega) (by omega)).trans (hbl.block i hi)⟩
theorem Keeps2.key {a b : Nat} {w w' : World} {A B : Array Value} {Ta Tb : Nat} (k : Keeps2 a b w w') (ha : w.heap[a]? = some (.cells A Ta (0, 0))) (hb : w.heap[b]? = some (.cells B Tb (0, 0))) {c : Nat} {D : Array Value} {T : Nat} (hc : w.heap[c]? = some (.cells D T (0, 0))) (h1 : T ≠ Ta) (h2 : T ≠ Tb) : w'.heap[c]? = some (.cells D T (0, 0)) := by
  refine (k.block c (Array.getElem?_eq_some_iff.1 hc).1 (fun e => ?_) (fun e => ?_)).trans hc
  · rw [e, ha] at hc; simp at hc; exact h1 hc.2.symm
  · rw [e, hb] at hc; simp at hc; exact h2 hc.2.symm
theorem Keeps2.vk {a b B0 : Nat} {w w' : World} {A B : Array Value} {Ta Tb : Nat} (k : Keeps2 a b w w') (ha : w.heap[a]? = some (.cells A Ta (0, 0))) (hb : w.heap[b]? = some (.cells B Tb (0, 0))) (h1 : 3 ≠ Ta) (h2 : 3 ≠ Tb) (la : B0 ≤ a) (lb : B0 ≤ b) : VK B0 w w' :=
  ⟨k.os, k.tape, k.output, k.size, fun i hi => k.block i (by have := (Array.getElem?_eq_some_iff.1 ha).1; omega) (by omega) (by omega), fun i D hD => k.key ha hb hD h1 h2⟩
theorem MpI.two {w0 : World} {b7 b2 b3 b6 Bv Bf : Nat} {p q : Option Addr} {n n2 cap cap2 : Nat} {s s' : Bool × (Nat → Int)} {w w' : World} (h : MpI w0 b7 b2 b3 b6 Bv Bf p q n n2 cap cap2 s w) (k : Keeps2 b6 b7 w w') (hf : FmI w0 b7 b2 b3 b6 p q n n2 cap cap2 s'.1 s'.2 w') : MpI w0 b7 b2 b3 b6 Bv Bf p q n n2 cap cap2 s' w' := by
  obtain ⟨g, capv, h1, h2⟩ := h.row
  obtain ⟨cur, hcur, h3, h4, h5⟩ := h2.curT
  refine ⟨hf, h.lv, ⟨g, capv, k.key h.fm.h6 h.fm.h7 h1 (by decide) (by decide), ?_⟩, k.key h.fm.h6 h.fm.h7 h.vis (by decide) (by decide)⟩
  have hc' := k.key h.fm.h6 h.fm.h7 hcur (by decide) (by decide)
  refine ⟨h2.1, ?_⟩
  rcases h2.2 with ⟨e1, _⟩ | ⟨g', cap', cur', e1, e2, e3, e4, e5, e6⟩
  · simp at e1
  · simp at e1
    obtain ⟨rfl, rfl⟩ := e1
    rw [hcur] at e3
    simp at e3
    subst e3
    exact Or.inr ⟨g, capv, cur, rfl, e2, hc', e4, e5, e6⟩
def stepM (gs hs : List C4) (P : List Nat) (s : Bool × (Nat → Int)) : Bool × (Nat → Int) := ((gotM gs hs P).isSome, (gotM gs hs P).getD s.2)
theorem maps2_call (w0 : World) (b7 b2 b3 b6 Bv Bf : Nat) (gs hs : List C4) (p q : Option Addr) (cap cap2 : Nat) (hn : gs.length ≤ 27) (hn2 : hs.length ≤ 27) (hok : ∀ z ∈ gs, Ok z) (hz : Sl w0 p gs) (hy : Sl w0 q hs)
    (P : List Nat) (hP : P ∈ ordV 4 4 []) (s : Bool × (Nat → Int)) (w : World) (v : Value) (hv : InP w v P) (hI : MpI w0 b7 b2 b3 b6 Bv Bf p q gs.length hs.length cap cap2 s w) :
    Calls Try.prog 78 (#[v] ++ #[.pointer (some ⟨Bv, 0, none⟩), .pointer (some ⟨Bf, 0, none⟩)]) w fun e w' => e = .returned (.bool (gotM gs hs P).isNone) ∧ VK w0.heap.size w w' ∧ MpI w0 b7 b2 b3 b6 Bv Bf p q gs.length hs.length cap cap2 (stepM gs hs P s) w' := by
  rw [many_ord] at hP
  obtain ⟨hp4, hp0, hp1, hp2, hp3⟩ := many_lt P hP
  have HPt := Lib.hid (part0 hP)
  obtain ⟨gi, ci, rfl, hci, hgi, hcl⟩ := inP_cells hv
  have q0 := hcl 0 (by omega)
  have q1 := hcl 1 (by omega)
  have q2 := hcl 2 (by omega)
  have q3 := hcl 3 (by omega)
  have HU := Lib.hid (m0_upd (P := P))
  rw [hp4] at hci ⊢
  have HF := Lib.hid (fun (m : Nat → Int) (hm : mapB m = true) (fd : Bool) (out : Nat → Int) (W : World) => fm1_c w0 b7 b2 b3 b6 gs hs p q cap cap2 hn hn2 hok hz hy m hm fd out W)
  have HI := Lib.hid hI
  have hszw := hI.fm.below.size
  clear hv hcl hI hz hy hok
  obtain ⟨f, hf⟩ : ∃ f, m0 P = f := ⟨_, rfl⟩
  have HG := Lib.hid (show gotM gs hs P = ((List.range 1296).map (dec4 f)).find? (fun m => hitB m gs hs) by unfold gotM; rw [hf, goOn_dec])
  rw [hf] at HU HPt
  generalize P.getD 0 0 = p0 at *
  generalize P.getD 1 0 = p1 at *
  generalize P.getD 2 0 = p2 at *
  generalize P.getD 3 0 = p3 at *
  have har : ∀ w : World, (Instr.arrayAt 36 (.slice (some ⟨gi, 0, none⟩) 4 ci)).run Try.prog w = .ok (.pointer (some ⟨gi, 0, none⟩)) w := fun w => run_arrayAt _ _ _ _ _ _ _ Try.underlying36 (Nat.le_refl 4)
  obtain ⟨R, hR⟩ : ∃ R, gotM gs hs P = R := ⟨_, rfl⟩
  have Hst := Lib.hid (show stepM gs hs P s = (R.isSome, R.getD s.2) by unfold stepM; rw [hR])
  rw [hR] at HG ⊢
  clear hR
  go_enter Try.func78, Try.ntmps78
  go_wp2
  clear q0 q1 q2 q3
  have hEw : Ex w (w.alloc (.cells (mcells f) 44)) := by repeat (first | exact Ex.refl _ | refine Ex.ext ?_ _ | refine Ex.alloc ?_ _ | refine Ex.drew ?_)
  go_loopw [11] (fun v wr => ∃ (k : Nat) (F : Nat → Int) (fd : Bool), k ≤ 1296 ∧ v = .int .i64 k ∧ MpI w0 b7 b2 b3 b6 Bv Bf p q gs.length hs.length cap cap2 (fd, s.2) wr ∧ VK w0.heap.size w wr ∧ wr.heap[w.heap.size]? = some (.cells (mcells F) 44 (0, 0)) ∧ (∀ j, j < 4 → F j = f j) ∧ (∀ j, j < k → hitB (dec4 f j) gs hs = false) ∧ (1 ≤ k → fd = false)) (fun v _ => 1296 - (intOf v).toNat)
  case atStart =>
    rw [HU.out]
    refine ⟨0, f, s.1, Nat.zero_le _, rfl, ?_, hEw.vk hszw, heap_alloc_new _ _, fun _ _ => rfl, fun j hj => by omega, fun h => by omega⟩
    have h := HI.out
    obtain ⟨g, capv, h1, h2⟩ := h.row
    exact ⟨h.fm.ex hEw, h.lv, ⟨g, capv, (hEw.below.block _ (Array.getElem?_eq_some_iff.1 h1).1).trans h1, h2.ex hEw⟩, (hEw.below.block _ (Array.getElem?_eq_some_iff.1 h.vis).1).trans h.vis⟩
  case round =>
    obtain ⟨k, F, fd, hk, rfl, hI, hV, hM, hF4, hno, hfd⟩ := hrel
    have HI' := Lib.hid hI
    have HV := Lib.hid hV
    have HM := Lib.hid hM
    have HF4 := Lib.hid hF4
    have Hno := Lib.hid hno
    have Hfd := Lib.hid hfd
    obtain ⟨g, capv, hbv, hrow⟩ := hI.row
    have hc1 := cell_of_one hbv
    have hl1 := (Array.getElem?_eq_some_iff.1 hbv).1
    have hcells := row3_cells hrow rfl
    have hgl := hrow.blk.2
    have hcap6 := hrow.lens.1
    have hi1 := isRow_of (n := 16) hM rfl
    have hi2 := rowAt_of hM
    have hlm := (Array.getElem?_eq_some_iff.1 hM).1
    have hc2 := cell_of_one hI.vis
    have hl2 := (Array.getElem?_eq_some_iff.1 hI.vis).1
    clear hI hV hM hF4 hno hfd hbv hrow
    by_cases hlt : k < 1296
    · have ha : k / 216 < 6 := by omega
      have hb : k / 36 % 6 < 6 := by omega
      have hc : k / 6 % 6 < 6 := by omega
      have hd : k % 6 < 6 := by omega
      obtain ⟨a0, a1, a2⟩ := hcells _ ha
      obtain ⟨e0, e1, e2⟩ := hcells _ hb
      obtain ⟨u0, u1, u2⟩ := hcells _ hc
      obtain ⟨d0, d1, d2⟩ := hcells _ hd
      have ja : (k : Int) / 216 = ((k / 216 : Nat) : Int) := by omega
      have jb : (k : Int) / 36 % 6 = ((k / 36 % 6 : Nat) : Int) := by omega
      have jc : (k : Int) / 6 % 6 = ((k / 6 % 6 : Nat) : Int) := by omega
      have jd : (k : Int) % 6 = ((k % 6 : Nat) : Int) := by omega
      clear hcells
      have HDec := Lib.hid (show dec4 f k = setv (setv (setv (setv f 0 (six.getD (k / 216) [])) 1 (six.getD (k / 36 % 6) [])) 2 (six.getD (k / 6 % 6) [])) 3 (six.getD (k % 6) []) from rfl)
      generalize k / 216 = na at *
      generalize k / 36 % 6 = nb at *
      generalize k / 6 % 6 = nc at *
      generalize k % 6 = nd at *
      generalize six.getD na [] = A at *
      generalize six.getD nb [] = B at *
      generalize six.getD nc [] = C at *
      generalize six.getD nd [] = D at *
      have HOv := Lib.hid (over_dec HF4.out A B C D)
      rw [← HDec.out] at HOv
      clear HDec
      generalize A.getD 0 0 = va0 at *
      generalize A.getD 1 0 = va1 at *
      generalize A.getD 2 0 = va2 at *
      generalize B.getD 0 0 = vb0 at *
      generalize B.getD 1 0 = vb1 at *
      generalize B.getD 2 0 = vb2 at *
      generalize C.getD 0 0 = vc0 at *
      generalize C.getD 1 0 = vc1 at *
      generalize C.getD 2 0 = vc2 at *
      generalize D.getD 0 0 = vd0 at *
      generalize D.getD 1 0 = vd1 at *
      generalize D.getD 2 0 = vd2 at *
      have hst : ∀ (x : Ext) (V : Nat → Int), (storeCells ⟨w.heap.size, 4, none⟩ (vcells V).toList).run Try.prog (ext wr x) = .ok () ((ext wr x).setRow w.heap.size (mcells (overV F V))) := fun x V => run_store_v4 _ _ F V (by rw [isRow_ext _ _ _ hlm]; exact hi1) (by rw [rowAt_ext _ _ hlm]; exact hi2)
      go_upto_region 6 with (refine region_tail 24 (by kernel_rfl) (by kernel_rfl) ?_; simp only [List.take_succ_cons, List.take_zero, List.drop_succ_cons, List.drop_zero]; (repeat (go_big_quiet_step (fail))); refine wpQuiet_nil ?_; rintro _ ⟨x, rfl⟩)
      rw [HOv.out]
      obtain ⟨w7, hw7⟩ : ∃ w7, ext (wr.setRow w.heap.size (mcells (dec4 f k))) x = w7 := ⟨_, rfl⟩
      rw [hw7]
      have hK7 : Keeps w.heap.size wr w7 := by
        rw [← hw7]
        exact (setRow_keeps).trans (Ex.keeps ⟨x, rfl⟩ _)
      have hM7 : w7.heap[w.heap.size]? = some (.cells (mcells (dec4 f k)) 44 (0, 0)) := by
        rw [← hw7, ext_heap _ _ (by rw [setRow_size]; exact hlm)]
        exact heap_setRow HM.out
      have h6w := (Array.getElem?_eq_some_iff.1 HI.out.fm.h6).1
      have h7w := (Array.getElem?_eq_some_iff.1 HI.out.fm.h7).1
      have HI7 := Lib.hid (HI'.out.keeps hK7 hszw HM.out (by omega))
      have HV7 := Lib.hid (HV.out.trans (hK7.vk hszw HM.out (by decide)))
      have hmB : mapB (dec4 f k) = true := goOn_map 4 f _ (Nat.le_refl _) HPt.out (by rw [goOn_dec]; exact List.mem_map.2 ⟨k, List.mem_range.2 hlt, rfl⟩)
      have HmB := Lib.hid hmB
      have hj1 := isRow_of (n := 16) hM7 rfl
      have hj2 := rowAt_of hM7
      have hlm7 := (Array.getElem?_eq_some_iff.1 hM7).1
      have hcf := cell_of_one HI7.out.vis
      have hlf := (Array.getElem?_eq_some_iff.1 HI7.out.vis).1
      clear hw7 hst hc1 hc2 hi1 hi2 a0 a1 a2 e0 e1 e2 u0 u1 u2 d0 d1 d2 ja jb jc jd hmB
      cases hhit : hitB (dec4 f k) gs hs
      · have HC := Lib.hid (HF.out (dec4 f k) HmB.out fd s.2 w7 HI7.out.fm)
        rw [hhit] at HC
        have Hhit := Lib.hid hhit
        clear hhit
        go_wp2_with (go_at_call 57; refine HC.out.mono ?_; rintro e w8 ⟨rfl, hK8, hI8⟩)
        go_roundw
        case rel =>
          have hM8 := (hK8.block _ hlm7 (by omega) (by omega)).trans hM7
          refine ⟨k + 1, dec4 f k, false, by omega, by go_num, HI7.out.two hK8 hI8, HV7.out.trans (hK8.vk HI7.out.fm.h6 HI7.out.fm.h7 (by decide) (by decide) HI7.out.fm.l6 HI7.out.fm.l7), hM8, fun j hj => dec4_low f k j hj, fun j hj => ?_, fun _ => rfl⟩
          by_cases hjk : j = k
          · subst hjk; exact Hhit.out
          · exact Hno.out j (by omega)
        case measure => simp [intOf]; omega
      · have HC := Lib.hid (HF.out (dec4 f k) HmB.out fd s.2 w7 HI7.out.fm)
        rw [hhit] at HC
        have HR := Lib.hid (show R = some (dec4 f k) by rw [HG.out]; exact find_first hlt Hno.out hhit)
        clear hhit
        go_wp2_with (go_at_call 57; refine HC.out.mono ?_; rintro e w8 ⟨rfl, hK8, hI8⟩)
        go_ret
        rw [Hst.out, HR.out]
        exact ⟨rfl, HV7.out.trans (hK8.vk HI7.out.fm.h6 HI7.out.fm.h7 (by decide) (by decide) HI7.out.fm.l6 HI7.out.fm.l7), HI7.out.two hK8 hI8⟩
    · have : k = 1296 := by omega
      subst this
      have HR := Lib.hid (show R = none by rw [HG.out]; exact find_nope Hno.out)
      have hfd0 : fd = false := Hfd.out (by omega)
      subst hfd0
      go_wp2
      go_ret
      rw [Hst.out, HR.out]
      exact ⟨rfl, HV.out, HI'.out⟩
end Go.Proofs.Ytkmnnnhnajnefaa

namespace Go.Proofs.Ytkmnnnhnajnefaa
set_option linter.unusedSimpArgs false
set_option linter.unusedVariables false
set_option maxHeartbeats 4000000
set_option maxRecDepth 100000
open Go.RowKit

theorem runS_all : ∀ (L s : List (List Nat)), runS (fun _ _ => true) (fun P L => L ++ [P]) L s = (s ++ L, true)
  | [], s => by simp [runS]
  | P :: L, s => by
    rw [runS, if_pos rfl, runS_all L (s ++ [P])]
    simp
theorem run_maps (gs hs : List C4) : ∀ (L : List (List Nat)) (s : Bool × (Nat → Int)), L ≠ [] → (runS (fun P _ => (gotM gs hs P).isNone) (stepM gs hs) L s).1 = ((L.findSome? (gotM gs hs)).isSome, (L.findSome? (gotM gs hs)).getD s.2)
  | [], s, h => absurd rfl h
  | P :: L, s, _ => by
    rw [runS, List.findSome?_cons]
    unfold stepM
    cases hg : gotM gs hs P with
    | some m => rfl
    | none =>
      simp only [Option.isNone_none, if_true, Option.isSome_none, Option.getD_none]
      by_cases hL : L = []
      · subst hL; rfl
      · exact run_maps gs hs L (false, s.2) hL
theorem found_got {gs hs : List C4} (hl : gs.length = hs.length) : foundR gs hs = many.findSome? (gotM gs hs) := by
  rw [foundR, if_pos hl, allM, find_flat]
  rfl
theorem maps_c (w0 : World) (b7 b2 b3 b6 : Nat) (gs hs : List C4) (p q : Option Addr) (cap cap2 : Nat) (hn : gs.length ≤ 27) (hn2 : hs.length ≤ 27) (hl : gs.length = hs.length) (hok : ∀ z ∈ gs, Ok z) (hz : Sl w0 p gs) (hy : Sl w0 q hs) (fd : Bool) (out : Nat → Int) (w : World) (hI : FmI w0 b7 b2 b3 b6 p q gs.length hs.length cap cap2 fd out w) :
    Calls Try.prog 56 #[.func (.func 57) #[] #[.pointer (some ⟨b7, 0, none⟩), .pointer (some ⟨b2, 0, none⟩), .pointer (some ⟨b3, 0, none⟩), .pointer (some ⟨b6, 0, none⟩)]] w fun e w' => e = .returned (.tuple #[]) ∧ FmI w0 b7 b2 b3 b6 p q gs.length hs.length cap cap2 (foundR gs hs).isSome ((foundR gs hs).getD out) w' := by
  have hmf : ∀ (fn : Fn) (first cap : Array Value) (w : World), (Instr.makeFunc fn first cap).run Try.prog w = .ok (.func fn first cap) w := fun _ _ _ _ => rfl
  have HI := Lib.hid hI
  have HO1 := Lib.hid (fun (Bv B0 : Nat) (W : World) (hI : I1 Bv B0 [] W) => orders1_c (lb := #[.pointer (some ⟨Bv, 0, none⟩)]) (n := 3) (B0 := B0) (I := I1 Bv B0) (go := fun _ _ => true) (f := fun P L => L ++ [P])
    ⟨fun s w w' h k => by
      obtain ⟨h1, h2, h3, g, c, h4, h5⟩ := h
      exact ⟨h1, Nat.le_trans h2 k.below.size, h3, g, c, (k.below.block _ (Array.getElem?_eq_some_iff.1 h4).1).trans h4, h5.ex k⟩, fun s w h => h.2.1⟩ (by omega) (by omega) (Bd := List.length) (M := 100) (fun P s => by simp)
    (fun P s w v hP hb hv hI => maps1_call Bv B0 P s w v hP hb hv hI) 3 [] none 0 0 [] W rfl (fun Q h => h) (by rw [six_ord]; decide) ⟨rfl, Nat.le_refl _, Or.inl ⟨rfl, rfl, rfl⟩⟩ hI)
  have HO2 := Lib.hid (fun (Bv Bf : Nat) (s : Bool × (Nat → Int)) (W : World) (hI : MpI w0 b7 b2 b3 b6 Bv Bf p q gs.length hs.length cap cap2 s W) => orders2_c (lb := #[.pointer (some ⟨Bv, 0, none⟩), .pointer (some ⟨Bf, 0, none⟩)]) (n := 4) (B0 := w0.heap.size) (I := MpI w0 b7 b2 b3 b6 Bv Bf p q gs.length hs.length cap cap2) (go := fun P _ => (gotM gs hs P).isNone) (f := stepM gs hs)
    ⟨fun s w w' h k => by
      obtain ⟨g, c, h4, h5⟩ := h.row
      exact ⟨h.fm.ex k, h.lv, ⟨g, c, (k.below.block _ (Array.getElem?_eq_some_iff.1 h4).1).trans h4, h5.ex k⟩, (k.below.block _ (Array.getElem?_eq_some_iff.1 h.vis).1).trans h.vis⟩, fun s w h => h.fm.below.size⟩ (by omega) (by omega) (Bd := fun _ => 0) (M := 25) (fun P s => by omega)
    (fun P s w v hP hb hv hI => maps2_call w0 b7 b2 b3 b6 Bv Bf gs hs p q cap cap2 hn hn2 hok hz hy P hP s w v hv hI) 4 [] none 0 0 s W rfl (fun Q h => h) (by rw [many_ord]; simp [many_len]) ⟨rfl, Nat.le_refl _, Or.inl ⟨rfl, rfl, rfl⟩⟩ hI)
  rw [six_ord, runS_all] at HO1
  rw [many_ord] at HO2
  have HR := Lib.hid (found_got hl)
  have hsz := hI.below.size
  clear hz hy hok hI
  go_enter Try.func56, Try.ntmps56
  have HO1' := Lib.hid (show ∀ (Bv B0 : Nat) (W : World), I1 Bv B0 [] W → Calls Try.prog 76 #[.slice none 0 0, .int .i64 3, .func (.func 77) #[] #[.pointer (some ⟨Bv, 0, none⟩)]] W fun e w' => e = .returned (.bool true) ∧ VK B0 W w' ∧ I1 Bv B0 six w' from HO1.out)
  have HO2' := Lib.hid (show ∀ (Bv Bf : Nat) (s : Bool × (Nat → Int)) (W : World), MpI w0 b7 b2 b3 b6 Bv Bf p q gs.length hs.length cap cap2 s W → Calls Try.prog 76 #[.slice none 0 0, .int .i64 4, .func (.func 78) #[] #[.pointer (some ⟨Bv, 0, none⟩), .pointer (some ⟨Bf, 0, none⟩)]] W fun e w' => ∃ b, e = .returned (.bool b) ∧ FmI w0 b7 b2 b3 b6 p q gs.length hs.length cap cap2 (foundR gs hs).isSome ((foundR gs hs).getD s.2) w' from fun Bv Bf s W h => (HO2.out Bv Bf s W h).mono (by
    rintro e w' ⟨rfl, _, hI⟩
    have := hI.fm
    rw [run_maps gs hs many s (by decide), ← HR.out] at this
    exact ⟨_, rfl, this⟩))
  clear HO1 HO2 HR
  have hfx := Lib.hid (show ∀ W, Ex w W → FmI w0 b7 b2 b3 b6 p q gs.length hs.length cap cap2 fd out W from fun W h => HI.out.ex h)
  have Hrow := Lib.hid (RowV.start (w.alloc (.cells #[.func (.func 57) #[] #[.pointer (some ⟨b7, 0, none⟩), .pointer (some ⟨b2, 0, none⟩), .pointer (some ⟨b3, 0, none⟩), .pointer (some ⟨b6, 0, none⟩)]] 62)) 37 3)
  go_upto_region 2 with fail
  generalize hW1 : World.alloc (World.alloc (World.alloc w _) _) _ = W1
  have hE1 : Ex w W1 := by rw [← hW1]; exact by repeat (first | exact Ex.refl _ | refine Ex.ext ?_ _ | refine Ex.alloc ?_ _ | refine Ex.drew ?_)
  have hs1 : W1.heap.size = w.heap.size + 3 := by rw [← hW1]; simp
  have hI1 : I1 (w.heap.size + 1 + 1) (w.heap.size + 1) [] W1 := by
    have hr := Hrow.out
    simp only [World.size_alloc] at hr
    refine ⟨by omega, by omega, by simp, w.heap.size + 1, 0, ?_, ?_⟩
    · rw [← hW1]
      have := heap_alloc_new ((w.alloc (.cells #[.func (.func 57) #[] #[.pointer (some ⟨b7, 0, none⟩), .pointer (some ⟨b2, 0, none⟩), .pointer (some ⟨b3, 0, none⟩), .pointer (some ⟨b6, 0, none⟩)]] 62)).alloc (.cells #[] 37)) (.cells #[.slice (some ⟨w.heap.size + 1, 0, none⟩) 0 0] 82)
      simpa using this
    · rw [← hW1]
      exact hr.ex (by exact by repeat (first | exact Ex.refl _ | refine Ex.ext ?_ _ | refine Ex.alloc ?_ _ | refine Ex.drew ?_))
  have hBf : W1.heap[w.heap.size]? = some (.cells #[.func (.func 57) #[] #[.pointer (some ⟨b7, 0, none⟩), .pointer (some ⟨b2, 0, none⟩), .pointer (some ⟨b3, 0, none⟩), .pointer (some ⟨b6, 0, none⟩)]] 62 (0, 0)) := by
    rw [← hW1, heap_alloc_old (h := by simp; omega), heap_alloc_old (h := by simp), heap_alloc_new]
  have hF1 := hfx.out W1 hE1
  have l7 := (Array.getElem?_eq_some_iff.1 HI.out.h7).1
  have l2 := (Array.getElem?_eq_some_iff.1 HI.out.h2).1
  have l3 := (Array.getElem?_eq_some_iff.1 HI.out.h3).1
  have l6 := (Array.getElem?_eq_some_iff.1 HI.out.h6).1
  clear hW1
  go_upto_region 3 with (go_at_call 76; refine (HO1'.out _ _ _ hI1).mono ?_; rintro e w2 ⟨rfl, hV2, hI2⟩)
  have hM2 : MpI w0 b7 b2 b3 b6 (w.heap.size + 1 + 1) w.heap.size p q gs.length hs.length cap cap2 (fd, out) w2 := by
    obtain ⟨_, _, _, g, c, h4, h5⟩ := hI2
    rw [six_len] at h4 h5
    have hbl := hF1.below
    exact ⟨⟨⟨hV2.os.trans hbl.os, hV2.tape.trans hbl.tape, hV2.output.trans hbl.output, Nat.le_trans hbl.size hV2.size, fun i hi => (hV2.old i (by omega)).trans (hbl.block i hi)⟩, hF1.l7, hF1.l6, hF1.ne, (hV2.old _ (by omega)).trans hF1.h7, (hV2.old _ (by omega)).trans hF1.h2, (hV2.old _ (by omega)).trans hF1.h3, (hV2.old _ (by omega)).trans hF1.h6⟩, by omega, ⟨g, c, h4, h5.low (by omega)⟩, (hV2.old _ (by omega)).trans hBf⟩
  go_wp2_with (go_at_call 76; refine (HO2'.out _ _ _ _ hM2).mono ?_; rintro e w3 ⟨b, rfl, hF3⟩)
  go_end0
  exact ⟨rfl, hF3⟩
end Go.Proofs.Ytkmnnnhnajnefaa

namespace Go.Proofs.Ytkmnnnhnajnefaa
set_option linter.unusedSimpArgs false
set_option linter.unusedVariables false
set_option maxHeartbeats 4000000
set_option maxRecDepth 100000
open Go.RowKit

theorem implFirstMap_c (gs hs : List C4) (p q : Option Addr) (cap cap2 : Nat) (w : World) (hn : gs.length ≤ 1000000000000) (hn2 : hs.length ≤ 1000000000000) (hz : Sl w p gs) (hy : Sl w q hs) :
    Calls Try.prog 30 #[.slice p gs.length cap, .slice q hs.length cap2] w fun e w' => e = .returned (.tuple #[.agg (mcells (ansM (fmR gs hs))), .bool (fmR gs hs).isSome]) ∧ Ex w w' := by
  have HG : FewAt 55 w p gs.length cap (fewB gs) := ⟨fun W hW => isFew_c gs p cap W hn (hz.ex hW)⟩
  have HH : FewAt 55 w q hs.length cap2 (fewB hs) := ⟨fun W hW => isFew_c hs q cap2 W hn2 (hy.ex hW)⟩
  cases h1 : fewB gs
  · have HR := Lib.hid (show fmR gs hs = none by simp [fmR, bothB, h1])
    rw [h1] at HG
    rw [HR.out]
    clear hz hy h1
    go_enter Try.func30, Try.ntmps30
    go_wp2_with (go_at_call 55; refine Calls.mono (fewAt_use (w := w) (by assumption) (by exact by repeat (first | exact Ex.refl _ | refine Ex.ext ?_ _ | refine Ex.alloc ?_ _ | refine Ex.drew ?_))) ?_; rintro e w2 ⟨rfl, x, rfl⟩)
    refine bodyPost_ret (v := .tuple #[.agg (mcells mzero), .bool false]) (by simp only [results, Try.results30]; go_simp) rfl ⟨rfl, ?_⟩
    exact by repeat (first | with_reducible exact Ex.refl _ | with_reducible refine Ex.ext ?_ _ | with_reducible refine Ex.alloc ?_ _ | with_reducible refine Ex.drew ?_)
  · cases h2 : fewB hs
    · have HR := Lib.hid (show fmR gs hs = none by simp [fmR, bothB, h2])
      rw [h1] at HG
      rw [h2] at HH
      rw [HR.out]
      clear hz hy h1 h2
      go_enter Try.func30, Try.ntmps30
      go_wp2_with (go_at_call 55; refine Calls.mono (fewAt_use (w := w) (by assumption) (by exact by repeat (first | exact Ex.refl _ | refine Ex.ext ?_ _ | refine Ex.alloc ?_ _ | refine Ex.drew ?_))) ?_; rintro e w2 ⟨rfl, x, rfl⟩)
      refine bodyPost_ret (v := .tuple #[.agg (mcells mzero), .bool false]) (by simp only [results, Try.results30]; go_simp) rfl ⟨rfl, ?_⟩
      exact by repeat (first | with_reducible exact Ex.refl _ | with_reducible refine Ex.ext ?_ _ | with_reducible refine Ex.alloc ?_ _ | with_reducible refine Ex.drew ?_)
    · have HR := Lib.hid (show fmR gs hs = foundR gs hs by simp [fmR, bothB, h1, h2])
      obtain ⟨hg, hg6⟩ := few_len h1
      obtain ⟨hh, hh6⟩ := few_len h2
      rw [h1] at HG
      rw [h2] at HH
      rw [HR.out]
      by_cases hl : gs.length = hs.length
      · have hl' : ((gs.length : Int) == (hs.length : Int)) = true := beq_iff_eq.2 (by omega)
        have hl'' : ((gs.length : Int) != (hs.length : Int)) = false := by simp only [bne, hl']; rfl
        have HM := Lib.hid (fun (W0 W1 : World) (b7 b2 b3 b6 : Nat) (hE : Ex w W0) (hI : FmI W0 b7 b2 b3 b6 p q gs.length hs.length cap cap2 false mzero W1) => maps_c W0 b7 b2 b3 b6 gs hs p q cap cap2 (by omega) (by omega) hl hg.ok (hz.ex hE) (hy.ex hE) false mzero W1 hI)
        have Hl := Lib.hid hl
        obtain ⟨R, hR⟩ : ∃ R, foundR gs hs = R := ⟨_, rfl⟩
        rw [hR] at HM ⊢
        clear hz hy h1 h2 hg hh hR HR hl
        go_enter Try.func30, Try.ntmps30
        go_upto_region 4 with (go_at_call 55; refine Calls.mono (fewAt_use (w := w) (by assumption) (by exact by repeat (first | exact Ex.refl _ | refine Ex.ext ?_ _ | refine Ex.alloc ?_ _ | refine Ex.drew ?_))) ?_; rintro e w2 ⟨rfl, x, rfl⟩)
        generalize Ext.app _ _ = y
        obtain ⟨W0, hW0⟩ : ∃ W0, ext (((w.alloc (.cells #[.slice p gs.length cap] 22)).alloc (.cells #[.slice q hs.length cap2] 22)).alloc (.cells (mcells mzero) 44)) y = W0 := ⟨_, rfl⟩
        have hN : w.heap.size + 1 + 1 + 1 + y.sz = W0.heap.size := by rw [← hW0, ext_size]; simp
        have hE0 : Ex w W0 := by rw [← hW0]; exact by repeat (first | exact Ex.refl _ | refine Ex.ext ?_ _ | refine Ex.alloc ?_ _ | refine Ex.drew ?_)
        have k2 : W0.heap[w.heap.size]? = some (.cells #[.slice p gs.length cap] 22 (0, 0)) := by
          rw [← hW0, ext_heap _ _ (by first | (simp; done) | (simp; omega)), heap_alloc_old (h := by first | (simp; done) | (simp; omega)), heap_alloc_old (h := by simp), heap_alloc_new]
        have k3 : W0.heap[w.heap.size + 1]? = some (.cells #[.slice q hs.length cap2] 22 (0, 0)) := by
          have := heap_alloc_new (w.alloc (.cells #[.slice p gs.length cap] 22)) (.cells #[.slice q hs.length cap2] 22)
          rw [← hW0, ext_heap _ _ (by first | (simp; done) | (simp; omega)), heap_alloc_old (h := by simp)]
          simpa using this
        have k4 : W0.heap[w.heap.size + 1 + 1]? = some (.cells (mcells mzero) 44 (0, 0)) := by
          have := heap_alloc_new ((w.alloc (.cells #[.slice p gs.length cap] 22)).alloc (.cells #[.slice q hs.length cap2] 22)) (.cells (mcells mzero) 44)
          rw [← hW0, ext_heap _ _ (by first | (simp; done) | (simp; omega))]
          simpa using this
        rw [hW0, hN]
        clear hW0
        have hEW : Ex W0 ((W0.alloc (.cells (mcells mzero) 44)).alloc (.cells #[.bool false] 4)) := by repeat (first | exact Ex.refl _ | refine Ex.ext ?_ _ | refine Ex.alloc ?_ _ | refine Ex.drew ?_)
        have l2 := (Array.getElem?_eq_some_iff.1 k2).1
        have l3 := (Array.getElem?_eq_some_iff.1 k3).1
        have l4 := (Array.getElem?_eq_some_iff.1 k4).1
        have hFm : FmI W0 (W0.heap.size + 1) w.heap.size (w.heap.size + 1) W0.heap.size p q gs.length hs.length cap cap2 false mzero ((W0.alloc (.cells (mcells mzero) 44)).alloc (.cells #[.bool false] 4)) := by
          refine ⟨hEW.below, by omega, Nat.le_refl _, by omega, ?_, (hEW.below.block _ l2).trans k2, (hEW.below.block _ l3).trans k3, ?_⟩
          · have := heap_alloc_new (W0.alloc (.cells (mcells mzero) 44)) (.cells #[.bool false] 4)
            simpa using this
          · rw [heap_alloc_old (h := by simp), heap_alloc_new]
        have hmf : ∀ (fn : Fn) (first cap : Array Value) (w : World), (Instr.makeFunc fn first cap).run Try.prog w = .ok (.func fn first cap) w := fun _ _ _ _ => rfl
        go_upto_region 5 with (go_at_call 56; refine (HM.out _ _ _ _ _ _ hE0 hFm).mono ?_; rintro e w5 ⟨rfl, hF5⟩)
        have j1 := isRow_of (n := 16) hF5.h6 rfl
        have j2 := rowAt_of hF5.h6
        have j3 := cell_of_one hF5.h7
        have j4 := isRow_of (n := 16) ((hF5.below.block _ l4).trans k4) rfl
        have n6 := (Array.getElem?_eq_some_iff.1 hF5.h6).1
        have n7 := (Array.getElem?_eq_some_iff.1 hF5.h7).1
        have n4 : w.heap.size + 1 + 1 < w5.heap.size := Nat.lt_of_lt_of_le l4 hF5.below.size
        have hb5 : Ex w w5 := Ex.of_below (hE0.below.trans (hF5.below.mono hE0.below.size))
        clear hFm hF5 hEW
        have hn4 : w.heap.size + 1 + 1 ≠ W0.heap.size + 1 := by omega
        have j5 : ∀ A : Array Value, (w5.setRow (w.heap.size + 1 + 1) A).cell? ⟨W0.heap.size + 1, 0, none⟩ = some (.bool R.isSome) := fun A => (keeps_cell setRow_keeps n7 (Ne.symm hn4)).trans j3
        go_region
        all_goals go_wp2
        have hq1 : isRow (w5.setRow (w.heap.size + 1 + 1) (mcells (R.getD mzero))).drew (w.heap.size + 1 + 1) 16 = true := isRow_setRow j4 rfl
        have hq2 : rowAt (w5.setRow (w.heap.size + 1 + 1) (mcells (R.getD mzero))).drew (w.heap.size + 1 + 1) = mcells (R.getD mzero) := rowAt_setRow j4
        have hrun := runRow_yes (P := Try.prog) _ _ _ hq1
        rw [hq2] at hrun
        clear hq1 hq2
        refine bodyPost_ret (v := .tuple #[.agg (mcells (R.getD mzero)), .bool R.isSome]) (by simp only [results, Try.results30]; go_simp; first | done | (rw [hrun]; first | done | rfl)) rfl ⟨rfl, ?_⟩
        exact Ex.drew (Keeps.ex hb5 setRow_keeps (by omega))
      · have HN := Lib.hid (found_none hl)
        have hl' : ((gs.length : Int) == (hs.length : Int)) = false := beq_eq_false_iff_ne.2 (by omega)
        have hl'' : ((gs.length : Int) != (hs.length : Int)) = true := by simp only [bne, hl']; rfl
        rw [HN.out]
        clear hz hy h1 h2 hg hh hl
        go_enter Try.func30, Try.ntmps30
        go_wp2_with (go_at_call 55; refine Calls.mono (fewAt_use (w := w) (by assumption) (by exact by repeat (first | exact Ex.refl _ | refine Ex.ext ?_ _ | refine Ex.alloc ?_ _ | refine Ex.drew ?_))) ?_; rintro e w2 ⟨rfl, x, rfl⟩)
        refine bodyPost_ret (v := .tuple #[.agg (mcells mzero), .bool false]) (by simp only [results, Try.results30]; go_simp) rfl ⟨rfl, ?_⟩
        exact by repeat (first | with_reducible exact Ex.refl _ | with_reducible refine Ex.ext ?_ _ | with_reducible refine Ex.alloc ?_ _ | with_reducible refine Ex.drew ?_)

theorem implAreAlike_c (gs hs : List C4) (p q : Option Addr) (cap cap2 : Nat) (w : World) (hn : gs.length ≤ 1000000000000) (hn2 : hs.length ≤ 1000000000000) (hz : Sl w p gs) (hy : Sl w q hs) :
    Calls Try.prog 33 #[.slice p gs.length cap, .slice q hs.length cap2] w fun e w' => e = .returned (.tuple #[.bool (fmR gs hs).isSome, .bool (bothB gs hs)]) ∧ Ex w w' := by
  have HG : FewAt 55 w p gs.length cap (fewB gs) := ⟨fun W hW => isFew_c gs p cap W hn (hz.ex hW)⟩
  have HH : FewAt 55 w q hs.length cap2 (fewB hs) := ⟨fun W hW => isFew_c hs q cap2 W hn2 (hy.ex hW)⟩
  have HF := Lib.hid (fun W (hW : Ex w W) => implFirstMap_c gs hs p q cap cap2 W hn hn2 (hz.ex hW) (hy.ex hW))
  cases h1 : fewB gs
  · have HR := Lib.hid (show fmR gs hs = none by simp [fmR, bothB, h1])
    have HB := Lib.hid (show bothB gs hs = false by simp [bothB, h1])
    rw [h1] at HG
    rw [HR.out, HB.out]
    clear hz hy h1
    go_enter Try.func33, Try.ntmps33
    go_wp2_with (go_at_call 55; refine Calls.mono (fewAt_use (w := w) (by assumption) (by exact by repeat (first | exact Ex.refl _ | refine Ex.ext ?_ _ | refine Ex.alloc ?_ _ | refine Ex.drew ?_))) ?_; rintro e w2 ⟨rfl, x, rfl⟩)
    go_ret2
    exact ⟨rfl, by repeat (first | with_reducible exact Ex.refl _ | with_reducible refine Ex.ext ?_ _ | with_reducible refine Ex.alloc ?_ _ | with_reducible refine Ex.drew ?_)⟩
  · cases h2 : fewB hs
    · have HR := Lib.hid (show fmR gs hs = none by simp [fmR, bothB, h2])
      have HB := Lib.hid (show bothB gs hs = false by simp [bothB, h2])
      rw [h1] at HG
      rw [h2] at HH
      rw [HR.out, HB.out]
      clear hz hy h1 h2
      go_enter Try.func33, Try.ntmps33
      go_wp2_with (go_at_call 55; refine Calls.mono (fewAt_use (w := w) (by assumption) (by exact by repeat (first | exact Ex.refl _ | refine Ex.ext ?_ _ | refine Ex.alloc ?_ _ | refine Ex.drew ?_))) ?_; rintro e w2 ⟨rfl, x, rfl⟩)
      go_ret2
      exact ⟨rfl, by repeat (first | with_reducible exact Ex.refl _ | with_reducible refine Ex.ext ?_ _ | with_reducible refine Ex.alloc ?_ _ | with_reducible refine Ex.drew ?_)⟩
    · have HB := Lib.hid (show bothB gs hs = true by simp [bothB, h1, h2])
      rw [h1] at HG
      rw [h2] at HH
      rw [HB.out]
      obtain ⟨R, hR⟩ : ∃ R, fmR gs hs = R := ⟨_, rfl⟩
      rw [hR] at HF ⊢
      clear hz hy h1 h2 hR
      go_enter Try.func33, Try.ntmps33
      go_wp2_with (first | (go_at_call 55; refine Calls.mono (fewAt_use (w := w) (by assumption) (by exact by repeat (first | exact Ex.refl _ | refine Ex.ext ?_ _ | refine Ex.alloc ?_ _ | refine Ex.drew ?_))) ?_; rintro e w2 ⟨rfl, x, rfl⟩) | (go_at_call 30; refine (HF.out _ (by exact by repeat (first | exact Ex.refl _ | refine Ex.ext ?_ _ | refine Ex.alloc ?_ _ | refine Ex.drew ?_))).mono ?_; rintro e w2 ⟨rfl, x, rfl⟩))
      go_ret2
      exact ⟨rfl, by repeat (first | with_reducible exact Ex.refl _ | with_reducible refine Ex.ext ?_ _ | with_reducible refine Ex.alloc ?_ _ | with_reducible refine Ex.drew ?_)⟩
end Go.Proofs.Ytkmnnnhnajnefaa

namespace Go.Proofs.Ytkmnnnhnajnefaa
set_option linter.unusedSimpArgs false
set_option linter.unusedVariables false
set_option maxHeartbeats 4000000
set_option maxRecDepth 100000
open Go.RowKit

structure SlAt (w0 : World) (p : Option Addr) (n : Nat) (cs : List C4) : Prop where
  len : cs.length = n
  bd : n ≤ 2000000
  sl : Sl w0 p cs
theorem toA4S_q {w0 w : World} {p : Option Addr} {n cap : Nat} {cs : List C4} (h : SlAt w0 p n cs) (hB : Below w0.heap.size w0 w) :
    Calls Try.prog 12 #[.slice p n cap] w fun e w' => ∃ g, e = .returned (.slice (some ⟨g, 0, none⟩) n n) ∧ Ex w w' ∧ Row w.heap.size w'.heap.size w' (some ⟨g, 0, none⟩) n cs := by
  obtain ⟨rfl, hn, hz⟩ := h
  exact toA4S_o cs p cap w hn (hz.below hB)

theorem fnExactFirstMap_walk (w : World) (p : Option Addr) (cs : List C4) (cap : Nat) (hl : cs.length ≤ maxLen) (hz : Sl w p cs) (q : Option Addr) (ds : List C4) (cap2 : Nat) (hl2 : ds.length ≤ maxLen) (hy : Sl w q ds) : Calls Try.prog 8 #[.slice p cs.length cap, .slice q ds.length cap2] w fun e w' => e = .returned (.bool true) ∧ Below w.heap.size w w' := by
  unfold maxLen at hl hl2
  have hB := Below.refl w.heap.size w
  by_cases hs : cs.length ≤ 1048576
  · by_cases hs2 : (cs.length : Int) + ds.length ≤ 1048576
    · have e1 : szR cs.length 1048576 = 1048576 - cs.length := by unfold szR; rw [if_neg (by omega)]
      have e2 : szR ds.length (1048576 - cs.length) = 1048576 - cs.length - ds.length := by unfold szR; rw [if_neg (by omega)]
      have h3 : ¬ ((1048576 : Int) - cs.length < 0) := by omega
      have h4 : ¬ ((1048576 : Int) - cs.length - ds.length < 0) := by omega
      have hzq : SlAt w p cs.length cs := ⟨rfl, by omega, hz⟩
      have hyq : SlAt w q ds.length ds := ⟨rfl, by omega, hy⟩
      have HS := Lib.hid (fun (p q : Option Addr) (cap cap2 : Nat) (W : World) (h1 : Sl W p cs) (h2 : Sl W q ds) => specFirstMap_c cs ds p q cap cap2 W (by omega) (by omega) h1 h2)
      have HI := Lib.hid (fun (p q : Option Addr) (cap cap2 : Nat) (W : World) (h1 : Sl W p cs) (h2 : Sl W q ds) => implFirstMap_c cs ds p q cap cap2 W (by omega) (by omega) h1 h2)
      clear hz hy
      obtain ⟨M, hM⟩ : ∃ M, ansM (fmR cs ds) = M := ⟨_, rfl⟩
      obtain ⟨b, hb⟩ : ∃ b, (fmR cs ds).isSome = b := ⟨_, rfl⟩
      rw [hM, hb] at HS HI
      clear hM hb
      go_enter Try.func8, Try.ntmps8
      go_wp2_with (first | (go_at_call 10; refine (sz_c _ _ _ _ (by omega) (by omega) (by omega) _).mono ?_; rintro e w1 ⟨rfl, hx⟩; rw [e1]; have hB := below_ex hB hx; clear hx) | (go_at_call 10; refine (sz_c _ _ _ _ (by omega) (by omega) (by omega) _).mono ?_; rintro e w2 ⟨rfl, hx⟩; rw [e2]; have hB := below_ex hB hx; clear hx))
      go_wp2_with (first | (go_at_call 12; refine (toA4S_q (by assumption) hB).mono ?_; rintro e w3 ⟨gra, rfl, hx, ra⟩; have _ck : Row _ _ _ _ _ cs := ra; have hB := below_ex hB hx; clear hx) | (go_at_call 12; refine (toA4S_q (by assumption) hB).mono ?_; rintro e w4 ⟨grb, rfl, hx, rb⟩; have ra := ra.ex hx; have hB := below_ex hB hx; clear hx))
      go_upto_region 9 with (go_at_call 29; refine (HS.out _ _ _ _ _ ra.sl rb.sl).mono ?_; rintro e w5 ⟨rfl, hx⟩; have hB := below_ex hB hx; clear hx)
      obtain ⟨v6, hv6⟩ : ∃ v6, w5.alloc (.cells (mcells M) 44) = v6 := ⟨_, rfl⟩
      have hM6 : v6.heap[w5.heap.size]? = some (.cells (mcells M) 44 (0, 0)) := by rw [← hv6]; exact heap_alloc_new _ _
      have hx6 : Ex w5 v6 := by rw [← hv6]; exact by repeat (first | exact Ex.refl _ | refine Ex.ext ?_ _ | refine Ex.alloc ?_ _ | refine Ex.drew ?_)
      rw [hv6]
      have hB := below_ex hB hx6
      clear hv6 hx6
      generalize w5.heap.size = b6 at *
      have hE := Ex.refl v6
      go_wp2_with (first | (go_at_call 12; refine (toA4S_q (by assumption) hB).mono ?_; rintro e w6 ⟨grx, rfl, hx, rx⟩; have _ck : Row _ _ _ _ _ cs := rx; have hB := below_ex hB hx; have hE := hE.trans hx; clear hx) | (go_at_call 12; refine (toA4S_q (by assumption) hB).mono ?_; rintro e w7 ⟨grx2, rfl, hx, rx2⟩; have rx := rx.ex hx; have hB := below_ex hB hx; have hE := hE.trans hx; clear hx))
      go_upto_region 12 with (go_at_call 30; refine (HI.out _ _ _ _ _ rx.sl rx2.sl).mono ?_; rintro e w8 ⟨rfl, hx⟩; have rx := rx.ex hx; have rx2 := rx2.ex hx; have hB := below_ex hB hx; have hE := hE.trans hx; clear hx)
      obtain ⟨v9, hv9⟩ : ∃ v9, w8.alloc (.cells (mcells M) 44) = v9 := ⟨_, rfl⟩
      have hM9 : v9.heap[w8.heap.size]? = some (.cells (mcells M) 44 (0, 0)) := by rw [← hv9]; exact heap_alloc_new _ _
      have hx9 : Ex w8 v9 := by rw [← hv9]; exact by repeat (first | exact Ex.refl _ | refine Ex.ext ?_ _ | refine Ex.alloc ?_ _ | refine Ex.drew ?_)
      rw [hv9]
      have hB := below_ex hB hx9
      have rx := rx.ex hx9
      have rx2 := rx2.ex hx9
      have hM6 := ((hE.trans hx9).below.block _ (Array.getElem?_eq_some_iff.1 hM6).1).trans hM6
      clear hv9 hx9 hE
      generalize w8.heap.size = b9 at *
      have i1 := isRow_of (n := 16) hM6 rfl
      have i2 := rowAt_of hM6
      have i3 := isRow_of (n := 16) hM9 rfl
      have i4 := rowAt_of hM9
      cases b
      all_goals
        go_wp2_with (go_at_call 31; refine (eqMap_same M _).mono ?_; rintro e w10 ⟨rfl, hx⟩; have rx := rx.ex hx; have rx2 := rx2.ex hx; have hB := below_ex hB hx; clear hx)
        go_wp2_with (go_at_call 12; refine (toA4S_q (by assumption) hB).mono ?_; rintro e w11 ⟨gry, rfl, hx, ry⟩; have rx := rx.ex hx; have rx2 := rx2.ex hx; have hB := below_ex hB hx; clear hx)
        go_wp2_with (go_at_call 14; refine (eqA4S_c _ _ _ _ _ _ _ (by omega) (by omega) rx.sl ry.sl).mono ?_; rintro e w12 ⟨rfl, hx⟩; have rx2 := rx2.ex hx; have hB := below_ex hB hx; clear hx)
        go_wp2_with (go_at_call 12; refine (toA4S_q (by assumption) hB).mono ?_; rintro e w13 ⟨grz, rfl, hx, rz⟩; have rx2 := rx2.ex hx; have hB := below_ex hB hx; clear hx)
        go_wp2_with (go_at_call 14; refine (eqA4S_c _ _ _ _ _ _ _ (by omega) (by omega) rx2.sl rz.sl).mono ?_; rintro e w14 ⟨rfl, hx⟩; have hB := below_ex hB hx; clear hx)
        go_ret
        exact ⟨rfl, hB⟩
    · have e1 : szR cs.length 1048576 = 1048576 - cs.length := by unfold szR; rw [if_neg (by omega)]
      have e2 : szR ds.length (1048576 - cs.length) = -1 := by unfold szR; rw [if_pos (by omega)]
      have h3 : ¬ ((1048576 : Int) - cs.length < 0) := by omega
      go_enter Try.func8, Try.ntmps8
      go_wp2_with (first | (go_at_call 10; refine (sz_c _ _ _ _ (by omega) (by omega) (by omega) _).mono ?_; rintro e w1 ⟨rfl, hx⟩; rw [e1]; have hB := below_ex hB hx; clear hx) | (go_at_call 10; refine (sz_c _ _ _ _ (by omega) (by omega) (by omega) _).mono ?_; rintro e w2 ⟨rfl, hx⟩; rw [e2]; have hB := below_ex hB hx; clear hx))
      go_ret
      exact ⟨rfl, hB⟩
  · go_enter Try.func8, Try.ntmps8
    go_wp2_with (go_at_call 10; refine (sz_c _ _ _ _ (by omega) (by omega) (by omega) _).mono ?_; rintro e w1 ⟨rfl, hx⟩; rw [szBig hs]; have hB := below_ex hB hx; clear hx)
    go_ret
    exact ⟨rfl, hB⟩

theorem fnExactAreAlike_walk (w : World) (p : Option Addr) (cs : List C4) (cap : Nat) (hl : cs.length ≤ maxLen) (hz : Sl w p cs) (q : Option Addr) (ds : List C4) (cap2 : Nat) (hl2 : ds.length ≤ maxLen) (hy : Sl w q ds) : Calls Try.prog 9 #[.slice p cs.length cap, .slice q ds.length cap2] w fun e w' => e = .returned (.bool true) ∧ Below w.heap.size w w' := by
  unfold maxLen at hl hl2
  have hB := Below.refl w.heap.size w
  by_cases hs : cs.length ≤ 1048576
  · by_cases hs2 : (cs.length : Int) + ds.length ≤ 1048576
    · have e1 : szR cs.length 1048576 = 1048576 - cs.length := by unfold szR; rw [if_neg (by omega)]
      have e2 : szR ds.length (1048576 - cs.length) = 1048576 - cs.length - ds.length := by unfold szR; rw [if_neg (by omega)]
      have h3 : ¬ ((1048576 : Int) - cs.length < 0) := by omega
      have h4 : ¬ ((1048576 : Int) - cs.length - ds.length < 0) := by omega
      have hzq : SlAt w p cs.length cs := ⟨rfl, by omega, hz⟩
      have hyq : SlAt w q ds.length ds := ⟨rfl, by omega, hy⟩
      have HS := Lib.hid (fun (p q : Option Addr) (cap cap2 : Nat) (W : World) (h1 : Sl W p cs) (h2 : Sl W q ds) => specAreAlike_c cs ds p q cap cap2 W (by omega) (by omega) h1 h2)
      have HI := Lib.hid (fun (p q : Option Addr) (cap cap2 : Nat) (W : World) (h1 : Sl W p cs) (h2 : Sl W q ds) => implAreAlike_c cs ds p q cap cap2 W (by omega) (by omega) h1 h2)
      clear hz hy
      obtain ⟨a, ha⟩ : ∃ a, (fmR cs ds).isSome = a := ⟨_, rfl⟩
      obtain ⟨b, hb⟩ : ∃ b, bothB cs ds = b := ⟨_, rfl⟩
      rw [ha, hb] at HS HI
      clear ha hb
      go_enter Try.func9, Try.ntmps9
      go_wp2_with (first | (go_at_call 10; refine (sz_c _ _ _ _ (by omega) (by omega) (by omega) _).mono ?_; rintro e w1 ⟨rfl, hx⟩; rw [e1]; have hB := below_ex hB hx; clear hx) | (go_at_call 10; refine (sz_c _ _ _ _ (by omega) (by omega) (by omega) _).mono ?_; rintro e w2 ⟨rfl, hx⟩; rw [e2]; have hB := below_ex hB hx; clear hx))
      go_wp2_with (first | (go_at_call 12; refine (toA4S_q (by assumption) hB).mono ?_; rintro e w3 ⟨gra, rfl, hx, ra⟩; have _ck : Row _ _ _ _ _ cs := ra; have hB := below_ex hB hx; clear hx) | (go_at_call 12; refine (toA4S_q (by assumption) hB).mono ?_; rintro e w4 ⟨grb, rfl, hx, rb⟩; have ra := ra.ex hx; have hB := below_ex hB hx; clear hx))
      go_wp2_with (go_at_call 32; refine (HS.out _ _ _ _ _ ra.sl rb.sl).mono ?_; rintro e w5 ⟨rfl, hx⟩; have hB := below_ex hB hx; clear hx)
      go_wp2_with (first | (go_at_call 12; refine (toA4S_q (by assumption) hB).mono ?_; rintro e w6 ⟨grx, rfl, hx, rx⟩; have _ck : Row _ _ _ _ _ cs := rx; have hB := below_ex hB hx; clear hx) | (go_at_call 12; refine (toA4S_q (by assumption) hB).mono ?_; rintro e w7 ⟨grx2, rfl, hx, rx2⟩; have rx := rx.ex hx; have hB := below_ex hB hx; clear hx))
      cases a
      all_goals cases b
      all_goals
        go_wp2_with (go_at_call 33; refine (HI.out _ _ _ _ _ rx.sl rx2.sl).mono ?_; rintro e w8 ⟨rfl, hx⟩; have rx := rx.ex hx; have rx2 := rx2.ex hx; have hB := below_ex hB hx; clear hx)
        go_wp2_with (go_at_call 12; refine (toA4S_q (by assumption) hB).mono ?_; rintro e w11 ⟨gry, rfl, hx, ry⟩; have rx := rx.ex hx; have rx2 := rx2.ex hx; have hB := below_ex hB hx; clear hx)
        go_wp2_with (go_at_call 14; refine (eqA4S_c _ _ _ _ _ _ _ (by omega) (by omega) rx.sl ry.sl).mono ?_; rintro e w12 ⟨rfl, hx⟩; have rx2 := rx2.ex hx; have hB := below_ex hB hx; clear hx)
        go_wp2_with (go_at_call 12; refine (toA4S_q (by assumption) hB).mono ?_; rintro e w13 ⟨grz, rfl, hx, rz⟩; have rx2 := rx2.ex hx; have hB := below_ex hB hx; clear hx)
        go_wp2_with (go_at_call 14; refine (eqA4S_c _ _ _ _ _ _ _ (by omega) (by omega) rx2.sl rz.sl).mono ?_; rintro e w14 ⟨rfl, hx⟩; have hB := below_ex hB hx; clear hx)
        go_ret
        exact ⟨rfl, hB⟩
    · have e1 : szR cs.length 1048576 = 1048576 - cs.length := by unfold szR; rw [if_neg (by omega)]
      have e2 : szR ds.length (1048576 - cs.length) = -1 := by unfold szR; rw [if_pos (by omega)]
      have h3 : ¬ ((1048576 : Int) - cs.length < 0) := by omega
      go_enter Try.func9, Try.ntmps9
      go_wp2_with (first | (go_at_call 10; refine (sz_c _ _ _ _ (by omega) (by omega) (by omega) _).mono ?_; rintro e w1 ⟨rfl, hx⟩; rw [e1]; have hB := below_ex hB hx; clear hx) | (go_at_call 10; refine (sz_c _ _ _ _ (by omega) (by omega) (by omega) _).mono ?_; rintro e w2 ⟨rfl, hx⟩; rw [e2]; have hB := below_ex hB hx; clear hx))
      go_ret
      exact ⟨rfl, hB⟩
  · go_enter Try.func9, Try.ntmps9
    go_wp2_with (go_at_call 10; refine (sz_c _ _ _ _ (by omega) (by omega) (by omega) _).mono ?_; rintro e w1 ⟨rfl, hx⟩; rw [szBig hs]; have hB := below_ex hB hx; clear hx)
    go_ret
    exact ⟨rfl, hB⟩
end Go.Proofs.Ytkmnnnhnajnefaa
