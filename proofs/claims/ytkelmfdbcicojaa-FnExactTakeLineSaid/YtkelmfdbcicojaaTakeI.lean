/- The walk of take, of the program. -/
import Derived.Test.YtkelmfdbcicojaaTake
import Derived.Test.YtkelmfdbcicojaaLayI
namespace Go.Proofs.Ytkelmfdbcicojaa
set_option linter.unusedSimpArgs false
set_option linter.unusedVariables false
set_option maxHeartbeats 1000000
set_option maxRecDepth 100000
open Go.RowKit


def idx3 (i j k m : Nat) : Int := if m = i then 0 else if m = j then 1 else if m = k then 2 else -1
theorem index3_c (i j k m : Nat) (b : Nat) (w : World) (hm : m ≤ 1000) (h0 : w.cell? ⟨b, 0, none⟩ = some (.int .i64 i)) (h1 : w.cell? ⟨b, 1, none⟩ = some (.int .i64 j)) (h2 : w.cell? ⟨b, 2, none⟩ = some (.int .i64 k)) :
    Calls Try.prog 141 #[.slice (some ⟨b, 0, none⟩) 3 3, .int .i64 m] w fun e w' => e = .returned (.int .i64 (idx3 i j k m)) ∧ Ex w w' := by
  by_cases q1 : m = i
  · subst q1
    go_enter Try.func141, Try.ntmps141
    go_wp2
    refine wp_loop_rounds 4 ?_
    iterate 4 (all_goals (try rw [rounds_succ]); go_wp2)
    go_ret
    exact ⟨by simp [idx3], by repeat (first | exact Ex.refl _ | refine Ex.ext ?_ _ | refine Ex.alloc ?_ _ | refine Ex.drew ?_)⟩
  have g1 : ¬ ((m : Int) = (i : Int)) := by omega
  by_cases q2 : m = j
  · subst q2
    go_enter Try.func141, Try.ntmps141
    go_wp2
    refine wp_loop_rounds 4 ?_
    iterate 4 (all_goals (try rw [rounds_succ]); go_wp2)
    go_ret
    exact ⟨by simp [idx3, q1], by repeat (first | exact Ex.refl _ | refine Ex.ext ?_ _ | refine Ex.alloc ?_ _ | refine Ex.drew ?_)⟩
  have g2 : ¬ ((m : Int) = (j : Int)) := by omega
  by_cases q3 : m = k
  · subst q3
    go_enter Try.func141, Try.ntmps141
    go_wp2
    refine wp_loop_rounds 4 ?_
    iterate 4 (all_goals (try rw [rounds_succ]); go_wp2)
    go_ret
    exact ⟨by simp [idx3, q1, q2], by repeat (first | exact Ex.refl _ | refine Ex.ext ?_ _ | refine Ex.alloc ?_ _ | refine Ex.drew ?_)⟩
  have g3 : ¬ ((m : Int) = (k : Int)) := by omega
  go_enter Try.func141, Try.ntmps141
  go_wp2
  refine wp_loop_rounds 4 ?_
  iterate 4 (all_goals (try rw [rounds_succ]); go_wp2)
  go_ret
  exact ⟨by simp [idx3, q1, q2, q3], by repeat (first | exact Ex.refl _ | refine Ex.ext ?_ _ | refine Ex.alloc ?_ _ | refine Ex.drew ?_)⟩

theorem contains3_c (i j k m : Nat) (b : Nat) (w : World) (hm : m ≤ 1000) (h0 : w.cell? ⟨b, 0, none⟩ = some (.int .i64 i)) (h1 : w.cell? ⟨b, 1, none⟩ = some (.int .i64 j)) (h2 : w.cell? ⟨b, 2, none⟩ = some (.int .i64 k)) :
    Calls Try.prog 118 #[.slice (some ⟨b, 0, none⟩) 3 3, .int .i64 m] w fun e w' => e = .returned (.bool (inLine i j k m)) ∧ Ex w w' := by
  have H := Lib.hid (index3_c i j k m b w hm h0 h1 h2)
  clear h0 h1 h2
  go_enter Try.func118, Try.ntmps118
  go_wp2_with (go_at_call 141; refine H.out.mono ?_; rintro e w' ⟨rfl, x, rfl⟩)
  go_ret
  refine ⟨ret_bool ?_, by repeat (first | exact Ex.refl _ | refine Ex.ext ?_ _ | refine Ex.alloc ?_ _ | refine Ex.drew ?_)⟩
  by_cases q1 : m = i
  · subst q1; simp [inLine, idx3]
  by_cases q2 : m = j
  · subst q2; simp [inLine, idx3, q1]
  by_cases q3 : m = k
  · subst q3; simp [inLine, idx3, q1, q2]
  · simp [inLine, idx3, q1, q2, q3]

theorem take_c (s n : Int) (cs : List C4) (i j k : Nat) (p : Option Addr) (cap : Nat) (w : World) (hD : DealOk s n cs) (hi : i ≤ 1000) (hj : j ≤ 1000) (hk : k ≤ 1000) (hz : Src w (.slice p cs.length cap) cs) :
    Calls Try.prog 75 #[.agg #[.int .i64 s, .int .i64 n, .slice p cs.length cap], .agg #[.int .i64 i, .int .i64 j, .int .i64 k]] w fun e w' => ∃ r cap', e = .returned (.agg #[.int .i64 s, .int .i64 (takN n cs i j k), .slice r (takL s n cs i j k).length cap']) ∧ Ex w w' ∧ Row w.heap.size w'.heap.size w' r cap' (takL s n cs i j k) := by
  have hlen : cs.length ≤ 81 := by have := hD.len; have := hD.n1; omega
  have Hd := Lib.hid hD
  have Hz := Lib.hid hz
  clear hD hz
  go_enter Try.func75, Try.ntmps75
  go_wp2
  go_loopw [5, 12] (fun u v wr => ∃ (m : Nat) (L : List C4) (g c : Nat), m ≤ cs.length ∧ v = .int .i64 m ∧ u = .slice (some ⟨g, 0, none⟩) L.length c ∧ Ex w wr ∧ wr.heap[w.heap.size]? = some (.cells #[.int .i64 s, .int .i64 n, .slice p cs.length cap] 26 (0, 0)) ∧
    wr.heap[w.heap.size + 1]? = some (.cells #[.int .i64 i, .int .i64 j, .int .i64 k] 33 (0, 0)) ∧ wr.heap[w.heap.size + 2]? = some (.cells #[.int .i64 0, .int .i64 0, .slice none 0 0] 26 (0, 0)) ∧
    RowV 52 4 w.heap.size wr g c L.length (cellsOf L) ∧ w.heap.size + 2 < g ∧ takeC cs i j k = L ++ skipFrom (inLine i j k) (cs.drop m) m) (fun _ v _ => cs.length - (intOf v).toNat)
  case atStart =>
    refine ⟨0, [], w.heap.size + 1 + 1 + 1, 0, Nat.zero_le _, rfl, rfl, by repeat (first | exact Ex.refl _ | refine Ex.ext ?_ _ | refine Ex.alloc ?_ _ | refine Ex.drew ?_), up1 (up1 (up1 (alloc_at rfl))), up1 (up1 (alloc_at (by simp))), up1 (alloc_at (by simp)), ?_, by omega, rfl⟩
    exact ((RowV.start' _ _ _ (w.heap.size + 1 + 1 + 1) (by simp)).low (by omega))
  case round =>
    obtain ⟨m, L, g, c, hm, rfl, rfl, hE, hbD, hbL, hbR, hrow, hg, hf⟩ := hrel
    have HE := Lib.hid hE
    have HL := Lib.hid hbL
    have HR := Lib.hid hbR
    have HD := Lib.hid hbD
    have hrowlo := Lib.hid hrow.blk.1
    have HW := Lib.hid hrow
    have Hf := Lib.hid hf
    have l0 := blk_cell hbL 0
    have l1 := blk_cell hbL 1
    have l2 := blk_cell hbL 2
    have hE4 : w.heap.size + 2 < wr.heap.size := (Array.getElem?_eq_some_iff.1 hbR).1
    clear hE hbL hbR hbD hrow hf
    simp at l0 l1 l2
    have hLl : L.length ≤ 81 := by
      have e0 := skip_len (inLine i j k) cs 0
      have e1 := Hf.out
      unfold takeC at e1
      rw [e1, List.length_append] at e0
      omega
    by_cases hlt : m < cs.length
    · obtain ⟨b, o, rfl, hb, e1, e2, e3, e4⟩ := (Hz.out.sl.ex HE.out) m hlt
      have Hd2 := Lib.hid (List.drop_eq_getElem_cons hlt)
      generalize cs[m] = z at *
      cases hin : inLine i j k m
      · go_wp2_with (first | (go_at_call 118; refine (contains3_c i j k m _ _ (by omega) (Ex.cell (w := wr) (by exact by repeat (first | exact Ex.refl _ | refine Ex.ext ?_ _ | refine Ex.alloc ?_ _ | refine Ex.drew ?_)) l0) (Ex.cell (w := wr) (by exact by repeat (first | exact Ex.refl _ | refine Ex.ext ?_ _ | refine Ex.alloc ?_ _ | refine Ex.drew ?_)) l1) (Ex.cell (w := wr) (by exact by repeat (first | exact Ex.refl _ | refine Ex.ext ?_ _ | refine Ex.alloc ?_ _ | refine Ex.drew ?_)) l2)).mono ?_; rw [hin]; rintro e w' ⟨rfl, x, rfl⟩) | (at_builtin; refine wp_app rowC4 (nW := _) (by simp [go_sem]) rfl _ _ rfl rfl (HW.out.ex (by exact by repeat (first | exact Ex.refl _ | refine Ex.ext ?_ _ | refine Ex.alloc ?_ _ | refine Ex.drew ?_))) 1 1 [.int .i64 z.a, .int .i64 z.b, .int .i64 z.c, .int .i64 z.d] rfl rfl (one4 _ _ _ _) (by omega) ?c2 ?c3 ?_; (case c2 => (unfold maxLen; omega)); (case c3 => omega); intro g' cap'' wq hrow' hK hg'))
        have hg0 := hrowlo.out
        have hg2 : w.heap.size + 2 < g' := by
          rcases hg' with h | h
          · omega
          · simp [go_sem] at h; omega
        refine ⟨⟨m + 1, L ++ [z], g', cap'', by omega, by simp, by simp, ?_, ?_, ?_, ?_, ?_, hg2, ?_⟩, by simp [intOf]; omega⟩
        · exact Keeps.ex (HE.out.trans (by exact by repeat (first | exact Ex.refl _ | refine Ex.ext ?_ _ | refine Ex.alloc ?_ _ | refine Ex.drew ?_))) hK hg0
        · exact hK.blk (Ex.blk (w := wr) (by exact by repeat (first | exact Ex.refl _ | refine Ex.ext ?_ _ | refine Ex.alloc ?_ _ | refine Ex.drew ?_)) HD.out) (by omega)
        · exact hK.blk (Ex.blk (w := wr) (by exact by repeat (first | exact Ex.refl _ | refine Ex.ext ?_ _ | refine Ex.alloc ?_ _ | refine Ex.drew ?_)) HL.out) (by omega)
        · exact hK.blk (Ex.blk (w := wr) (by exact by repeat (first | exact Ex.refl _ | refine Ex.ext ?_ _ | refine Ex.alloc ?_ _ | refine Ex.drew ?_)) HR.out) (by omega)
        · rw [List.length_append, cellsOf_append]; exact hrow'
        · rw [Hf.out, Hd2.out, skip_no hin]; simp
      · go_wp2_with (first | (go_at_call 118; refine (contains3_c i j k m _ _ (by omega) (Ex.cell (w := wr) (by exact by repeat (first | exact Ex.refl _ | refine Ex.ext ?_ _ | refine Ex.alloc ?_ _ | refine Ex.drew ?_)) l0) (Ex.cell (w := wr) (by exact by repeat (first | exact Ex.refl _ | refine Ex.ext ?_ _ | refine Ex.alloc ?_ _ | refine Ex.drew ?_)) l1) (Ex.cell (w := wr) (by exact by repeat (first | exact Ex.refl _ | refine Ex.ext ?_ _ | refine Ex.alloc ?_ _ | refine Ex.drew ?_)) l2)).mono ?_; rw [hin]; rintro e w' ⟨rfl, x, rfl⟩))
        exact ⟨⟨m + 1, L, g, c, by omega, by simp, rfl, HE.out.trans (by exact by repeat (first | exact Ex.refl _ | refine Ex.ext ?_ _ | refine Ex.alloc ?_ _ | refine Ex.drew ?_)), Ex.blk (w := wr) (by exact by repeat (first | exact Ex.refl _ | refine Ex.ext ?_ _ | refine Ex.alloc ?_ _ | refine Ex.drew ?_)) HD.out, Ex.blk (w := wr) (by exact by repeat (first | exact Ex.refl _ | refine Ex.ext ?_ _ | refine Ex.alloc ?_ _ | refine Ex.drew ?_)) HL.out, Ex.blk (w := wr) (by exact by repeat (first | exact Ex.refl _ | refine Ex.ext ?_ _ | refine Ex.alloc ?_ _ | refine Ex.drew ?_)) HR.out, HW.out.ex (by exact by repeat (first | exact Ex.refl _ | refine Ex.ext ?_ _ | refine Ex.alloc ?_ _ | refine Ex.drew ?_)), hg, by rw [Hf.out, Hd2.out, skip_yes hin]⟩, by simp [intOf]; omega⟩
    · obtain rfl : m = cs.length := by omega
      have hL : takeC cs i j k = L := by have := Hf.out; simpa [skipFrom] using this
      clear Hf
      subst hL
      have hT : DealOk s n (takeC cs i j k) := Hd.out.sub (skip_sub _ _ _)
      have HT := Lib.hid hT
      have hwr : IntKind.i64.wrap (12 - ((takeC cs i j k).length : Int)) = 12 - ((takeC cs i j k).length : Int) := IntWalk.i64_in _ (by omega)
      have hk0 := takeK_bd (takeC cs i j k)
      have Htk := Lib.hid (show takL s n cs i j k = layL s n (takeC cs i j k) (takeK (takeC cs i j k)) from rfl)
      have Htn := Lib.hid (show takN n cs i j k = layN n (takeK (takeC cs i j k)) from rfl)
      have Hkk := Lib.hid (show takeK (takeC cs i j k) = if 12 - ((takeC cs i j k).length : Int) < 0 then 0 else 12 - ((takeC cs i j k).length : Int) from rfl)
      generalize takeC cs i j k = T at *
      clear hT
      have hltD := (Array.getElem?_eq_some_iff.1 HD.out).1
      have hsrc : Src (setBlk wr w.heap.size (.cells #[.int .i64 s, .int .i64 n, .slice (some ⟨g, 0, none⟩) T.length c] 26 (0, 0))) (.slice (some ⟨g, 0, none⟩) T.length c) T := ((HW.out.keeps (setBlk_keeps _) (by omega)).row rfl).src
      have Hs := Lib.hid hsrc
      clear hsrc
      have hR1 : (setBlk wr w.heap.size (.cells #[.int .i64 s, .int .i64 n, .slice (some ⟨g, 0, none⟩) T.length c] 26 (0, 0))).heap[w.heap.size + 2]? = some (.cells #[.int .i64 0, .int .i64 0, .slice none 0 0] 26 (0, 0)) := (setBlk_keeps _).blk HR.out (by omega)
      have HR1 := Lib.hid hR1
      clear hR1
      have Hlay : Hid (∀ (q : Int) (w1 : World), q = takeK T → Src w1 (.slice (some ⟨g, 0, none⟩) T.length c) T → Calls Try.prog 69 #[.agg #[.int .i64 s, .int .i64 n, .slice (some ⟨g, 0, none⟩) T.length c], .int .i64 q] w1 fun e w' => ∃ r cap', e = .returned (.agg #[.int .i64 s, .int .i64 (layN n (takeK T)), .slice r (layL s n T (takeK T)).length cap']) ∧ Ex w1 w' ∧ Row w1.heap.size w'.heap.size w' r cap' (layL s n T (takeK T))) :=
        Lib.hid (by rintro q w1 rfl hs; exact lay_c _ _ _ _ _ _ _ HT.out hk0.1 (by omega) hs)
      rw [setBlk_self HD.out]
      go_wp2_with (go_at_call 69; refine (Hlay.out _ _ (by rw [Hkk.out]; split <;> omega) (Hs.out.ex (by exact by repeat (first | exact Ex.refl _ | refine Ex.ext ?_ _ | refine Ex.alloc ?_ _ | refine Ex.drew ?_)))).mono ?_; rintro e w6 ⟨r5, c5, rfl, hE5, hr5⟩; have hbR6 := hE5.blk (Ex.blk (w := setBlk wr w.heap.size (.cells #[.int .i64 s, .int .i64 n, .slice (some ⟨g, 0, none⟩) T.length c] 26 (0, 0))) (by exact by repeat (first | exact Ex.refl _ | refine Ex.ext ?_ _ | refine Ex.alloc ?_ _ | refine Ex.drew ?_)) HR1.out); have hlt6 := (Array.getElem?_eq_some_iff.1 hbR6).1; rw [setBlk_self hbR6])
      all_goals
        have hwr5 : Ex (setBlk wr w.heap.size (.cells #[.int .i64 s, .int .i64 n, .slice (some ⟨g, 0, none⟩) T.length c] 26 (0, 0))) w6 := (show Ex _ _ from by exact by repeat (first | exact Ex.refl _ | refine Ex.ext ?_ _ | refine Ex.alloc ?_ _ | refine Ex.drew ?_)).trans hE5
        have hExw : Ex w (setBlk wr w.heap.size (.cells #[.int .i64 s, .int .i64 n, .slice (some ⟨g, 0, none⟩) T.length c] 26 (0, 0))) := Keeps.ex HE.out (setBlk_keeps _) (Nat.le_refl _)
        refine bodyPost_ret (v := .agg #[.int .i64 s, .int .i64 (layN n (takeK T)), .slice r5 (layL s n T (takeK T)).length c5]) (by simp only [results, Try.results75]; go_simp) rfl ⟨r5, c5, by rw [Htk.out, Htn.out], Keeps.ex (hExw.trans hwr5) (setBlk_keeps _) (by omega), ?_⟩
        rw [Htk.out]
        exact (hr5.keeps (setBlk_keeps _) (by simp [go_sem]; omega)).mono (by simp [go_sem]; omega) (by rw [setBlk_size]; exact Nat.le_refl _)
end Go.Proofs.Ytkelmfdbcicojaa
