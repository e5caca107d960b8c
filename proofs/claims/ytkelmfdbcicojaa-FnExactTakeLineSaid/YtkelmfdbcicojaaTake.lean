/- The walks of l4Take and take. -/
import Derived.Test.YtkelmfdbcicojaaMore
import Derived.Test.YtkelmfdbcicojaaGreedy
import Derived.Deep.AppendLies
import Derived.Test.YtkelmfdbcicojaaHeld
namespace Go.Proofs.Ytkelmfdbcicojaa
set_option linter.unusedSimpArgs false
set_option linter.unusedVariables false
set_option maxHeartbeats 1000000
set_option maxRecDepth 100000
open Go.RowKit


/-- A box's block, whole. -/
theorem blk_cell {w : World} {b : Nat} {A : Array Value} {E : TypeId} {f : Nat × Nat} (h : w.heap[b]? = some (.cells A E f)) (i : Nat) : w.cell? ⟨b, i, none⟩ = A[i]? := by
  simp [World.cell?, h]
theorem Keeps.blk {w w' : World} {b g : Nat} {o : Obj} (k : Keeps g w w') (h : w.heap[b]? = some o) (hb : b ≠ g) : w'.heap[b]? = some o := by
  rw [k.block b (Array.getElem?_eq_some_iff.1 h).1 hb]; exact h
theorem Ex.blk {w w' : World} {b : Nat} {o : Obj} (k : Ex w w') (h : w.heap[b]? = some o) : w'.heap[b]? = some o := by
  rw [k.below.block b (Array.getElem?_eq_some_iff.1 h).1]; exact h
theorem Ex.cell {w w' : World} {b i : Nat} {v : Value} (k : Ex w w') (h : w.cell? ⟨b, i, none⟩ = some v) : w'.cell? ⟨b, i, none⟩ = some v := (k.keeps w.heap.size).cell (Nat.ne_of_lt (World.block_lt_of_cell? w _ h)) h
theorem BoxD.of_blk {w : World} {b : Nat} {s n : Int} {p : Option Addr} {l cap : Nat} (h : w.heap[b]? = some (.cells #[.int .i64 s, .int .i64 n, .slice p l cap] 26 (0, 0))) : BoxD w b s n p l cap :=
  ⟨(Array.getElem?_eq_some_iff.1 h).1, blk_cell h 0, blk_cell h 1, blk_cell h 2⟩
theorem blk_frozen {w : World} {b : Nat} {A : Array Value} {E : TypeId} (h : w.heap[b]? = some (.cells A E (0, 0))) (i : Nat) : w.frozen? ⟨b, i, none⟩ = false := by
  simp [World.frozen?, h]
theorem set_blk {w : World} {b i : Nat} {A : Array Value} {E : TypeId} {f : Nat × Nat} (v : Value) (h : w.heap[b]? = some (.cells A E f)) : (w.setCell ⟨b, i, none⟩ v).heap[b]? = some (.cells (A.setIfInBounds i v) E f) := by
  have := (Array.getElem?_eq_some_iff.1 h).1
  simp [World.setCell, Array.getElem?_modify, h]
theorem set_keeps (w : World) (b i : Nat) (v : Value) : Keeps b w (w.setCell ⟨b, i, none⟩ v) :=
  ⟨rfl, rfl, rfl, by simp [World.setCell], fun k _ hk => by simp [World.setCell, Array.getElem?_modify, Ne.symm hk]⟩
theorem up1 {w : World} {b : Nat} {o o' : Obj} (h : w.heap[b]? = some o) : (w.alloc o').heap[b]? = some o := ((Ex.refl _).alloc _).blk h
theorem alloc_at {w : World} {n : Nat} {A : Array Value} {E : TypeId} (h : n = w.heap.size) : (w.alloc (.cells A E)).heap[n]? = some (.cells A E (0, 0)) := by subst h; exact heap_alloc_new w _
theorem alloc_blk (w : World) (A : Array Value) (E : TypeId) : (w.alloc (.cells A E)).heap[w.heap.size]? = some (.cells A E (0, 0)) := heap_alloc_new w _

theorem skip_yes {f : Nat → Bool} {c : C4} {cs : List C4} {m : Nat} (h : f m = true) : skipFrom f (c :: cs) m = skipFrom f cs (m + 1) := by simp [skipFrom, h]
theorem skip_no {f : Nat → Bool} {c : C4} {cs : List C4} {m : Nat} (h : f m = false) : skipFrom f (c :: cs) m = c :: skipFrom f cs (m + 1) := by simp [skipFrom, h]
theorem skip_len (f : Nat → Bool) (cs : List C4) (m : Nat) : (skipFrom f cs m).length ≤ cs.length := (skip_sub f cs m).length_le

theorem l1Most_c (m : Int) (w : World) : Calls Try.prog 114 #[.int .i64 0, .int .i64 m] w fun e w' => e = .returned (.int .i64 (if m < 0 then 0 else m)) ∧ Ex w w' := by
  by_cases h : m < 0
  all_goals
    go_enter Try.func114, Try.ntmps114
    go_wp2
    go_ret
    exact ⟨by simp [h], by repeat (first | exact Ex.refl _ | refine Ex.ext ?_ _ | refine Ex.alloc ?_ _ | refine Ex.drew ?_)⟩

theorem l4Take_c (s n : Int) (cs : List C4) (i j k : Nat) (p : Option Addr) (cap : Nat) (w : World) (hD : DealOk s n cs) (hi : i ≤ 1000) (hj : j ≤ 1000) (hk : k ≤ 1000) (hz : Src w (.slice p cs.length cap) cs) :
    Calls Try.prog 72 #[.agg #[.int .i64 s, .int .i64 n, .slice p cs.length cap], .agg #[.int .i64 i, .int .i64 j, .int .i64 k]] w fun e w' => ∃ g cap', e = .returned (.agg #[.int .i64 s, .int .i64 (takN n cs i j k), .slice (some ⟨g, 0, none⟩) (takL s n cs i j k).length cap']) ∧ Ex w w' ∧ Row w.heap.size w'.heap.size w' (some ⟨g, 0, none⟩) cap' (takL s n cs i j k) := by
  have hlen : cs.length ≤ 81 := by have := hD.len; have := hD.n1; omega
  have Hd := Lib.hid hD
  have Hz := Lib.hid hz
  clear hD hz
  go_enter Try.func72, Try.ntmps72
  go_wp2
  go_loopw [6] (fun v wr => ∃ (m : Nat) (L : List C4) (g c : Nat), m ≤ cs.length ∧ v = .int .i64 m ∧ Ex w wr ∧ BoxD wr w.heap.size s n p cs.length cap ∧
    wr.heap[w.heap.size + 1]? = some (.cells #[.int .i64 i, .int .i64 j, .int .i64 k] 33 (0, 0)) ∧ wr.heap[w.heap.size + 2]? = some (.cells #[.int .i64 0, .int .i64 0, .slice none 0 0] 26 (0, 0)) ∧ wr.heap[w.heap.size + 4]? = some (.cells #[.int .i64 s, .int .i64 n, .slice (some ⟨g, 0, none⟩) L.length c] 26 (0, 0)) ∧
    RowV 52 4 w.heap.size wr g c L.length (cellsOf L) ∧ (g = w.heap.size + 3 ∨ w.heap.size + 4 < g) ∧ takeC cs i j k = L ++ skipFrom (inLine i j k) (cs.drop m) m) (fun v _ => cs.length - (intOf v).toNat)
  case atStart =>
    refine ⟨0, [], w.heap.size + 1 + 1 + 1, 0, Nat.zero_le _, rfl, by repeat (first | exact Ex.refl _ | refine Ex.ext ?_ _ | refine Ex.alloc ?_ _ | refine Ex.drew ?_), BoxD.of_blk (up1 (up1 (up1 (up1 (alloc_at rfl))))), up1 (up1 (up1 (alloc_at (by simp)))), up1 (up1 (alloc_at (by simp))), alloc_at (by simp), ?_, Or.inl (by omega), rfl⟩
    exact (((RowV.start' _ _ _ (w.heap.size + 1 + 1 + 1) (by simp)).low (by omega)).ex ((Ex.refl _).alloc _))
  case round =>
    obtain ⟨m, L, g, c, hm, rfl, hE, hbD, hbL, hbR, hbO, hrow, hg, hf⟩ := hrel
    have HE := Lib.hid hE
    have HD := Lib.hid hbD
    have HL := Lib.hid hbL
    have HR := Lib.hid hbR
    have HO := Lib.hid hbO
    have hrowlo := Lib.hid hrow.blk.1
    have HW := Lib.hid hrow
    have Hf := Lib.hid hf
    obtain ⟨a0, a1, a2, a3⟩ := hbD
    have l0 := blk_cell hbL 0
    have l1 := blk_cell hbL 1
    have l2 := blk_cell hbL 2
    have o0 := blk_cell hbO 0
    have o1 := blk_cell hbO 1
    have o2 := blk_cell hbO 2
    clear hE hbL hbR hrow hf
    simp at l0 l1 l2 o0 o1 o2
    have hLl : L.length ≤ 81 := by
      have e0 := skip_len (inLine i j k) cs 0
      have e1 := Hf.out
      unfold takeC at e1
      rw [e1, List.length_append] at e0
      omega
    by_cases hlt : m < cs.length
    · obtain ⟨b, o, rfl, hb, _⟩ := Hz.out.sl m hlt
      obtain ⟨_, _, eb, _, e1, e2, e3, e4⟩ := (Hz.out.sl.ex HE.out) m hlt
      cases eb
      have Hd2 := Lib.hid (List.drop_eq_getElem_cons hlt)
      generalize cs[m] = z at *
      cases hin : inLine i j k m
      · have hi1 : (m == i) = false ∧ (m == j) = false ∧ (m == k) = false := by simpa [inLine, Bool.or_eq_false_iff, and_assoc] using hin
        have g1 : ¬ ((m : Int) = (i : Int)) := by have := hi1.1; simp at this; omega
        have g2 : ¬ ((m : Int) = (j : Int)) := by have := hi1.2.1; simp at this; omega
        have g3 : ¬ ((m : Int) = (k : Int)) := by have := hi1.2.2; simp at this; omega
        clear hi1
        have gb1 : ((m : Int) != (i : Int)) = true := by simp [g1]
        have gb2 : ((m : Int) != (j : Int)) = true := by simp [g2]
        have gb3 : ((m : Int) != (k : Int)) = true := by simp [g3]
        have hne : w.heap.size + 4 ≠ g := by omega
        have hne0 : w.heap.size ≠ g := by have := hrowlo.out; omega
        have hneb : b ≠ g := by have := hrowlo.out; omega
        have fr0 := blk_frozen hbO
        go_wp2
        (refine region_headH 9 (fun w' => w'.cell? ⟨w.heap.size, 2, none⟩ = some (.slice (some ⟨b, o, none⟩) cs.length cap) ∧ w'.cell? ⟨w.heap.size + 4, 2, none⟩ = some (.slice (some ⟨g, 0, none⟩) L.length c) ∧ w'.cell? ⟨b, o + m * 4, none⟩ = some (.int .i64 z.a) ∧ w'.cell? ⟨b, o + m * 4 + 1, none⟩ = some (.int .i64 z.b) ∧ w'.cell? ⟨b, o + m * 4 + 2, none⟩ = some (.int .i64 z.c) ∧ w'.cell? ⟨b, o + m * 4 + 3, none⟩ = some (.int .i64 z.d)) (by kernel_rfl) (by kernel_rfl) (by first | (go_simp; done) | go_keep) (fun hHeld => ?_); simp only [List.size_toArray, List.length_cons, List.length_nil, Nat.zero_add, Nat.reduceAdd])
        (refine headH_take (i := 0) (v := ?_) (by kernel_rfl) (by omega) (by kernel_rfl) (by kernel_rfl) (fun _ _ _ h => h) (Or.inl ⟨by rfl, ?_⟩) (by assumption) ?_; rotate_left 1; (focus (intro w hSw; (try dsimp only at hSw); (try simp only [opOf_succ, opOf_zero]); go_simp <;> with_reducible rfl)); (try simp only [opOf_succ, opOf_zero, Act.put, List.setIfInBounds_toArray, List.set_cons_zero, List.set_cons_succ]))
        (refine headH_take (i := 1) (v := ?_) (by kernel_rfl) (by omega) (by kernel_rfl) (by kernel_rfl) (fun _ _ _ h => h) (Or.inl ⟨by rfl, ?_⟩) (by assumption) ?_; rotate_left 1; (focus (intro w hSw; (try dsimp only at hSw); (try simp only [opOf_succ, opOf_zero]); go_simp <;> with_reducible rfl)); (try simp only [opOf_succ, opOf_zero, Act.put, List.setIfInBounds_toArray, List.set_cons_zero, List.set_cons_succ]))
        (refine headH_take (i := 2) (v := ?_) (by kernel_rfl) (by omega) (by kernel_rfl) (by kernel_rfl) (fun _ _ _ h => h) (Or.inl ⟨by rfl, ?_⟩) (by assumption) ?_; rotate_left 1; (focus (intro w hSw; (try dsimp only at hSw); (try simp only [opOf_succ, opOf_zero]); go_simp <;> with_reducible rfl)); (try simp only [opOf_succ, opOf_zero, Act.put, List.setIfInBounds_toArray, List.set_cons_zero, List.set_cons_succ]))
        (refine headH_take (i := 3) (v := ?_) (by kernel_rfl) (by omega) (by kernel_rfl) (by kernel_rfl) (fun _ _ _ h => h) (Or.inl ⟨by rfl, ?_⟩) (by assumption) ?_; rotate_left 1; (focus (intro w hSw; (try dsimp only at hSw); (try simp only [opOf_succ, opOf_zero]); go_simp <;> with_reducible rfl)); (try simp only [opOf_succ, opOf_zero, Act.put, List.setIfInBounds_toArray, List.set_cons_zero, List.set_cons_succ]))
        (refine headH_take (i := 4) (v := ?_) (by kernel_rfl) (by omega) (by kernel_rfl) (by kernel_rfl) (fun _ _ _ h => h) (Or.inl ⟨by rfl, ?_⟩) (by assumption) ?_; rotate_left 1; (focus (intro w hSw; (try dsimp only at hSw); (try simp only [opOf_succ, opOf_zero]); go_simp <;> with_reducible rfl)); (try simp only [opOf_succ, opOf_zero, Act.put, List.setIfInBounds_toArray, List.set_cons_zero, List.set_cons_succ]))
        (refine headH_take (i := 5) (v := ?_) (by kernel_rfl) (by omega) (by kernel_rfl) (by kernel_rfl) (fun _ _ _ h => h) (Or.inl ⟨by rfl, ?_⟩) (by assumption) ?_; rotate_left 1; (focus (intro w hSw; (try dsimp only at hSw); (try simp only [opOf_succ, opOf_zero]); go_simp <;> with_reducible rfl)); (try simp only [opOf_succ, opOf_zero, Act.put, List.setIfInBounds_toArray, List.set_cons_zero, List.set_cons_succ]))
        (refine headH_take (i := 6) (v := ?_) (by kernel_rfl) (by omega) (by kernel_rfl) (by kernel_rfl) (fun _ _ _ h => h) (Or.inl ⟨by rfl, ?_⟩) (by assumption) ?_; rotate_left 1; (focus (intro w hSw; (try dsimp only at hSw); (try simp only [opOf_succ, opOf_zero]); go_simp <;> with_reducible rfl)); (try simp only [opOf_succ, opOf_zero, Act.put, List.setIfInBounds_toArray, List.set_cons_zero, List.set_cons_succ]))
        (refine headH_one (i := 7) (by kernel_rfl) (by omega) (by simp only [List.length_cons, List.length_nil]; omega) (fun Kx hKx => ?_); (try simp (config := { proj := false }) only [opOf_succ, opOf_zero]); go_simp; refine hKx.out _ _ (by first | (go_simp; done) | go_keep) (fun hHeld => ?_); clear hKx Kx; (try simp only [Act.put, List.setIfInBounds_toArray, List.set_cons_zero, List.set_cons_succ]))
        (refine headH_one (i := 8) (by kernel_rfl) (by omega) (by simp only [List.length_cons, List.length_nil]; omega) (fun Kx hKx => ?_); (try simp (config := { proj := false }) only [opOf_succ, opOf_zero]); (refine step_app rowC4 (by rfl) _ _ (by rfl) (by rfl) (HW.out.ex (by exact by repeat (first | exact Ex.refl _ | refine Ex.ext ?_ _ | refine Ex.alloc ?_ _ | refine Ex.drew ?_))) _ 1 1 [.int .i64 z.a, .int .i64 z.b, .int .i64 z.c, .int .i64 z.d] (by rfl) (by rfl) (by refine cells4 ?_ ?_ ?_ ?_ <;> (go_simp; done)) (one4 _ _ _ _) (by omega) (by unfold maxLen; omega) (by omega) ?_; intro g' c' w2 hr2 hK hg'); refine hKx.out _ _ ⟨hK.cell hne0 hHeld.1, hK.cell hne hHeld.2.1, hK.cell hneb hHeld.2.2.1, hK.cell hneb hHeld.2.2.2.1, hK.cell hneb hHeld.2.2.2.2.1, hK.cell hneb hHeld.2.2.2.2.2⟩ (fun hHeld => ?_); clear hKx Kx; (try simp only [Act.put, List.setIfInBounds_toArray, List.set_cons_zero, List.set_cons_succ]))
        (refine headH_done (by kernel_rfl) ?_; simp only [List.drop_succ_cons, List.drop_zero])
        have hbO2 : w2.heap[w.heap.size + 4]? = some (.cells #[.int .i64 s, .int .i64 n, .slice (some ⟨g, 0, none⟩) L.length c] 26 (0, 0)) := hK.blk (Ex.blk (w := wr) (by exact by repeat (first | exact Ex.refl _ | refine Ex.ext ?_ _ | refine Ex.alloc ?_ _ | refine Ex.drew ?_)) hbO) (by omega)
        have fr2 := blk_frozen hbO2
        have oc2 := blk_cell hbO2 2
        simp at oc2
        go_wp2
        have hS := set_keeps w2 (w.heap.size + 4) 2 (.slice (some ⟨g', 0, none⟩) (L.length + 1) c')
        have hE4 : w.heap.size + 4 < wr.heap.size := (Array.getElem?_eq_some_iff.1 hbO).1
        have hg2 : g' = w.heap.size + 3 ∨ w.heap.size + 4 < g' := by
          rcases hg' with h | h
          · rw [h]; exact hg
          · right; have hsz := (show Ex wr _ from (by exact by repeat (first | exact Ex.refl _ | refine Ex.ext ?_ _ | refine Ex.alloc ?_ _ | refine Ex.drew ?_))).below.size; simp [go_sem] at h; omega
        have e5 : w.heap.size + 1 + 1 + 1 + 1 = w.heap.size + 4 := rfl
        rw [e5]
        refine ⟨⟨m + 1, L ++ [z], g', c', by omega, by simp, ?_, ?_, ?_, ?_, ?_, ?_, hg2, ?_⟩, by simp [intOf]; omega⟩
        · exact Keeps.ex (Keeps.ex (HE.out.trans (by exact by repeat (first | exact Ex.refl _ | refine Ex.ext ?_ _ | refine Ex.alloc ?_ _ | refine Ex.drew ?_))) hK hrowlo.out) hS (by omega)
        · exact ⟨Nat.lt_of_lt_of_le a0 (Nat.le_trans (show Ex wr _ from by exact by repeat (first | exact Ex.refl _ | refine Ex.ext ?_ _ | refine Ex.alloc ?_ _ | refine Ex.drew ?_)).below.size (Nat.le_trans hK.size hS.size)), hS.cell (by omega) (hK.cell hne0 (Ex.cell (by exact by repeat (first | exact Ex.refl _ | refine Ex.ext ?_ _ | refine Ex.alloc ?_ _ | refine Ex.drew ?_)) a1)), hS.cell (by omega) (hK.cell hne0 (Ex.cell (by exact by repeat (first | exact Ex.refl _ | refine Ex.ext ?_ _ | refine Ex.alloc ?_ _ | refine Ex.drew ?_)) a2)), hS.cell (by omega) (hK.cell hne0 (Ex.cell (by exact by repeat (first | exact Ex.refl _ | refine Ex.ext ?_ _ | refine Ex.alloc ?_ _ | refine Ex.drew ?_)) a3))⟩
        · exact hS.blk (hK.blk (Ex.blk (w := wr) (by exact by repeat (first | exact Ex.refl _ | refine Ex.ext ?_ _ | refine Ex.alloc ?_ _ | refine Ex.drew ?_)) HL.out) (by have := hrowlo.out; omega)) (by omega)
        · exact hS.blk (hK.blk (Ex.blk (w := wr) (by exact by repeat (first | exact Ex.refl _ | refine Ex.ext ?_ _ | refine Ex.alloc ?_ _ | refine Ex.drew ?_)) HR.out) (by have := hrowlo.out; omega)) (by omega)
        · have := set_blk (i := 2) (.slice (some ⟨g', 0, none⟩) (L.length + 1) c') hbO2
          simpa using this
        · have := hr2.keeps hS (by omega)
          rw [List.length_append, cellsOf_append]
          exact this
        · rw [Hf.out, Hd2.out, skip_no hin]; simp
      · have hstep : takeC cs i j k = L ++ skipFrom (inLine i j k) (cs.drop (m + 1)) (m + 1) := by rw [Hf.out, Hd2.out, skip_yes hin]
        have Hf2 := Lib.hid hstep
        clear hstep
        by_cases q1 : m = i
        · subst q1
          have gb1 : ((m : Int) != (m : Int)) = false := by simp
          go_wp2
          exact ⟨⟨m + 1, L, g, c, by omega, by simp, HE.out.trans (by exact by repeat (first | exact Ex.refl _ | refine Ex.ext ?_ _ | refine Ex.alloc ?_ _ | refine Ex.drew ?_)), HD.out.ex (by exact by repeat (first | exact Ex.refl _ | refine Ex.ext ?_ _ | refine Ex.alloc ?_ _ | refine Ex.drew ?_)), Ex.blk (w := wr) (by exact by repeat (first | exact Ex.refl _ | refine Ex.ext ?_ _ | refine Ex.alloc ?_ _ | refine Ex.drew ?_)) HL.out, Ex.blk (w := wr) (by exact by repeat (first | exact Ex.refl _ | refine Ex.ext ?_ _ | refine Ex.alloc ?_ _ | refine Ex.drew ?_)) HR.out, Ex.blk (w := wr) (by exact by repeat (first | exact Ex.refl _ | refine Ex.ext ?_ _ | refine Ex.alloc ?_ _ | refine Ex.drew ?_)) hbO, HW.out.ex (by exact by repeat (first | exact Ex.refl _ | refine Ex.ext ?_ _ | refine Ex.alloc ?_ _ | refine Ex.drew ?_)), hg, Hf2.out⟩, by simp [intOf]; omega⟩
        have gb1 : ((m : Int) != (i : Int)) = true := by simp; omega
        by_cases q2 : m = j
        · subst q2
          have gb2 : ((m : Int) != (m : Int)) = false := by simp
          go_wp2
          exact ⟨⟨m + 1, L, g, c, by omega, by simp, HE.out.trans (by exact by repeat (first | exact Ex.refl _ | refine Ex.ext ?_ _ | refine Ex.alloc ?_ _ | refine Ex.drew ?_)), HD.out.ex (by exact by repeat (first | exact Ex.refl _ | refine Ex.ext ?_ _ | refine Ex.alloc ?_ _ | refine Ex.drew ?_)), Ex.blk (w := wr) (by exact by repeat (first | exact Ex.refl _ | refine Ex.ext ?_ _ | refine Ex.alloc ?_ _ | refine Ex.drew ?_)) HL.out, Ex.blk (w := wr) (by exact by repeat (first | exact Ex.refl _ | refine Ex.ext ?_ _ | refine Ex.alloc ?_ _ | refine Ex.drew ?_)) HR.out, Ex.blk (w := wr) (by exact by repeat (first | exact Ex.refl _ | refine Ex.ext ?_ _ | refine Ex.alloc ?_ _ | refine Ex.drew ?_)) hbO, HW.out.ex (by exact by repeat (first | exact Ex.refl _ | refine Ex.ext ?_ _ | refine Ex.alloc ?_ _ | refine Ex.drew ?_)), hg, Hf2.out⟩, by simp [intOf]; omega⟩
        have gb2 : ((m : Int) != (j : Int)) = true := by simp; omega
        have q3 : m = k := by simp [inLine] at hin; omega
        subst q3
        have gb3 : ((m : Int) != (m : Int)) = false := by simp
        go_wp2
        exact ⟨⟨m + 1, L, g, c, by omega, by simp, HE.out.trans (by exact by repeat (first | exact Ex.refl _ | refine Ex.ext ?_ _ | refine Ex.alloc ?_ _ | refine Ex.drew ?_)), HD.out.ex (by exact by repeat (first | exact Ex.refl _ | refine Ex.ext ?_ _ | refine Ex.alloc ?_ _ | refine Ex.drew ?_)), Ex.blk (w := wr) (by exact by repeat (first | exact Ex.refl _ | refine Ex.ext ?_ _ | refine Ex.alloc ?_ _ | refine Ex.drew ?_)) HL.out, Ex.blk (w := wr) (by exact by repeat (first | exact Ex.refl _ | refine Ex.ext ?_ _ | refine Ex.alloc ?_ _ | refine Ex.drew ?_)) HR.out, Ex.blk (w := wr) (by exact by repeat (first | exact Ex.refl _ | refine Ex.ext ?_ _ | refine Ex.alloc ?_ _ | refine Ex.drew ?_)) hbO, HW.out.ex (by exact by repeat (first | exact Ex.refl _ | refine Ex.ext ?_ _ | refine Ex.alloc ?_ _ | refine Ex.drew ?_)), hg, Hf2.out⟩, by simp [intOf]; omega⟩
    · obtain rfl : m = cs.length := by omega
      have hL : takeC cs i j k = L := by have := Hf.out; simpa [skipFrom] using this
      clear Hf
      subst hL
      have hT : DealOk s n (takeC cs i j k) := Hd.out.sub (skip_sub _ _ _)
      have HT := Lib.hid hT
      have hwr : IntKind.i64.wrap (12 - ((takeC cs i j k).length : Int)) = 12 - ((takeC cs i j k).length : Int) := IntWalk.i64_in _ (by omega)
      have hk0 := takeK_bd (takeC cs i j k)
      have Hkk := Lib.hid (show takeK (takeC cs i j k) = if 12 - ((takeC cs i j k).length : Int) < 0 then 0 else 12 - ((takeC cs i j k).length : Int) from rfl)
      have Htk := Lib.hid (show takL s n cs i j k = layL s n (takeC cs i j k) (takeK (takeC cs i j k)) from rfl)
      have Htn := Lib.hid (show takN n cs i j k = layN n (takeK (takeC cs i j k)) from rfl)
      generalize takeC cs i j k = T at *
      clear hT
      go_wp2
      (refine region_headH 7 (fun w' => w'.cell? ⟨w.heap.size + 4, 0, none⟩ = some (.int .i64 s) ∧ w'.cell? ⟨w.heap.size + 4, 1, none⟩ = some (.int .i64 n) ∧ w'.cell? ⟨w.heap.size + 4, 2, none⟩ = some (.slice (some ⟨g, 0, none⟩) T.length c)) (by kernel_rfl) (by kernel_rfl) (by first | (go_simp; done) | go_keep) (fun hHeld => ?_); simp only [List.size_toArray, List.length_cons, List.length_nil, Nat.zero_add, Nat.reduceAdd])
      (refine headH_take (i := 0) (v := ?_) (by kernel_rfl) (by omega) (by kernel_rfl) (by kernel_rfl) (fun _ _ _ h => h) (Or.inl ⟨by rfl, ?_⟩) (by assumption) ?_; rotate_left 1; (focus (intro w hSw; (try dsimp only at hSw); (try simp only [opOf_succ, opOf_zero]); go_simp <;> with_reducible rfl)); (try simp only [opOf_succ, opOf_zero, Act.put, List.setIfInBounds_toArray, List.set_cons_zero, List.set_cons_succ]))
      (refine headH_take (i := 1) (v := ?_) (by kernel_rfl) (by omega) (by kernel_rfl) (by kernel_rfl) (fun _ _ _ h => h) (Or.inl ⟨by rfl, ?_⟩) (by assumption) ?_; rotate_left 1; (focus (intro w hSw; (try dsimp only at hSw); (try simp only [opOf_succ, opOf_zero]); go_simp <;> with_reducible rfl)); (try simp only [opOf_succ, opOf_zero, Act.put, List.setIfInBounds_toArray, List.set_cons_zero, List.set_cons_succ]))
      (refine headH_take (i := 2) (v := ?_) (by kernel_rfl) (by omega) (by kernel_rfl) (by kernel_rfl) (fun _ _ _ h => h) (Or.inl ⟨by rfl, ?_⟩) (by assumption) ?_; rotate_left 1; (focus (intro w hSw; (try dsimp only at hSw); (try simp only [opOf_succ, opOf_zero]); go_simp <;> with_reducible rfl)); (try simp only [opOf_succ, opOf_zero, Act.put, List.setIfInBounds_toArray, List.set_cons_zero, List.set_cons_succ]))
      (refine headH_take (i := 3) (v := ?_) (by kernel_rfl) (by omega) (by kernel_rfl) (by kernel_rfl) (fun _ _ _ h => h) (Or.inl ⟨by rfl, ?_⟩) (by assumption) ?_; rotate_left 1; (focus (intro w hSw; (try dsimp only at hSw); (try simp only [opOf_succ, opOf_zero]); go_simp <;> with_reducible rfl)); (try simp only [opOf_succ, opOf_zero, Act.put, List.setIfInBounds_toArray, List.set_cons_zero, List.set_cons_succ]))
      (refine headH_take (i := 4) (v := ?_) (by kernel_rfl) (by omega) (by kernel_rfl) (by kernel_rfl) (fun _ _ _ h => h) (Or.inl ⟨by rfl, ?_⟩) (by assumption) ?_; rotate_left 1; (focus (intro w hSw; (try dsimp only at hSw); (try simp only [opOf_succ, opOf_zero]); go_simp <;> with_reducible rfl)); (try simp only [opOf_succ, opOf_zero, Act.put, List.setIfInBounds_toArray, List.set_cons_zero, List.set_cons_succ]))
      (refine headH_one (i := 5) (by kernel_rfl) (by omega) (by simp only [List.length_cons, List.length_nil]; omega) (fun Kx hKx => ?_); (try simp (config := { proj := false }) only [opOf_succ, opOf_zero]); (go_simp; go_at_call 114; refine (l1Most_c _ _).mono ?_; rw [← Hkk.out]; rintro e w5 ⟨rfl, hE0⟩; go_wp2_with fail); refine hKx.out _ _ ⟨hE0.cell hHeld.1, hE0.cell hHeld.2.1, hE0.cell hHeld.2.2⟩ (fun hHeld => ?_); clear hKx Kx; (try simp only [Act.put, List.setIfInBounds_toArray, List.set_cons_zero, List.set_cons_succ]))
      have hsrc : Src wr (.slice (some ⟨g, 0, none⟩) T.length c) T := (HW.out.row rfl).src
      (refine headH_one (i := 6) (by kernel_rfl) (by omega) (by simp only [List.length_cons, List.length_nil]; omega) (fun Kx hKx => ?_); (try simp (config := { proj := false }) only [opOf_succ, opOf_zero]); (go_simp; go_at_call 65; refine (l4Lay_c _ _ _ _ _ _ _ HT.out hk0.1 (by omega) (hsrc.ex (((Ex.refl _).drew).trans hE0))).mono ?_; rintro e w6 ⟨g5, c5, rfl, hE5, hr5⟩; go_wp2_with fail); refine hKx.out _ _ ⟨hE5.cell hHeld.1, hE5.cell hHeld.2.1, hE5.cell hHeld.2.2⟩ (fun hHeld => ?_); clear hKx Kx; (try simp only [Act.put, List.setIfInBounds_toArray, List.set_cons_zero, List.set_cons_succ]))
      (refine headH_done (by kernel_rfl) ?_; simp only [List.drop_succ_cons, List.drop_zero])
      have hbR6 := hE5.blk (hE0.blk (Ex.blk (w := wr) (by exact by repeat (first | exact Ex.refl _ | refine Ex.ext ?_ _ | refine Ex.alloc ?_ _ | refine Ex.drew ?_)) HR.out))
      have hlt6 := (Array.getElem?_eq_some_iff.1 hbR6).1
      rw [setBlk_self hbR6]
      go_wp2
      have hwr5 : Ex wr w5 := ((Ex.refl _).drew).trans hE0
      have hw5 : w.heap.size + 2 < w5.heap.size := Nat.lt_of_lt_of_le (Array.getElem?_eq_some_iff.1 HR.out).1 hwr5.below.size
      refine bodyPost_ret (v := .agg #[.int .i64 s, .int .i64 (layN n (takeK T)), .slice (some ⟨g5, 0, none⟩) (layL s n T (takeK T)).length c5]) (by simp only [results, Try.results72]; go_simp) rfl ⟨g5, c5, by rw [Htk.out, Htn.out], Keeps.ex (HE.out.trans (hwr5.trans hE5)) (setBlk_keeps _) (by omega), ?_⟩
      rw [Htk.out]
      exact (hr5.keeps (setBlk_keeps _) hw5).mono (by omega) (by rw [setBlk_size]; exact Nat.le_refl _)
end Go.Proofs.Ytkelmfdbcicojaa
