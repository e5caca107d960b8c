/- The walks of PlayDeal, and of the law on it. -/
import Derived.Test.YtnjfkgggebhelaaSizes
import Derived.Test.YtnjfkgggebhelaaSortAll
namespace Go.Proofs.Ytnjfkgggebhelaa
set_option linter.unusedSimpArgs false
set_option linter.unusedVariables false
set_option maxHeartbeats 1000000
set_option maxRecDepth 100000
open Go.RowKit


theorem step_t (s n : Int) (cs : List C4) (p : Option Addr) (cap : Nat) (w : World) (hD : DealOk s n cs) (hz : Src w (.slice p cs.length cap) cs) :
    Calls Try.prog 66 #[.agg #[.int .i64 s, .int .i64 n, .slice p cs.length cap]] w fun e w' => ∃ r cap', e = .returned (.tuple #[.agg #[.int .i64 s, .int .i64 (stepN n cs), .slice r (stepL s n cs).length cap'], .bool (!capB cs)]) ∧ Ex w w' ∧ Row w.heap.size w'.heap.size w' r cap' (stepL s n cs) := by
  have hlen : cs.length ≤ 81 := by have := hD.len; have := hD.n1; omega
  have Hd := Lib.hid hD
  have Hz := Lib.hid hz
  clear hD hz
  cases hL : linesR cs with
  | nil =>
    have Hcb := Lib.hid (show capB cs = true by simp [capB, hL])
    have Hn := Lib.hid (show stepN n cs = layN n 3 by simp [stepN, hL])
    have Hl := Lib.hid (show stepL s n cs = layL s n cs 3 by simp [stepL, hL])
    go_enter Try.func66, Try.ntmps66
    go_wp2_with (first | (go_at_call 91; refine (linesIn_c _ _ _ _ (by omega) Hd.out.nodup Hd.out.ok (Hz.out.sl.ex (by exact by repeat (first | exact Ex.refl _ | refine Ex.ext ?_ _ | refine Ex.alloc ?_ _ | refine Ex.drew ?_)))).mono ?_; rw [hL]; rintro e w' ⟨g, cap', rfl, ⟨x, rfl⟩, _⟩) | (go_at_call 103; refine (lay_c _ _ _ _ _ 3 _ Hd.out (by omega) (by omega) (Hz.out.ex (by exact by repeat (first | exact Ex.refl _ | refine Ex.ext ?_ _ | refine Ex.alloc ?_ _ | refine Ex.drew ?_)))).mono ?_; rintro e w2 ⟨r2, c2, rfl, ⟨y2, rfl⟩, hr2⟩; simp only [ext_ext, Ext.app_assoc] at hr2; have Hr2 := Lib.hid hr2; clear hr2))
    have hr2 := Hr2.out
    refine bodyPost_ret (v := .tuple #[.agg #[.int .i64 s, .int .i64 (layN n 3), .slice r2 (layL s n cs 3).length c2], .bool false]) (by simp only [results, Try.results66]; go_simp) rfl ⟨r2, c2, by rw [Hn.out, Hl.out, Hcb.out]; rfl, by repeat (first | exact Ex.refl _ | refine Ex.ext ?_ _ | refine Ex.alloc ?_ _ | refine Ex.drew ?_), ?_⟩
    rw [Hl.out]
    exact Row.mono (Row.high hr2 (by simp [ext_size]) (by simp [go_sem])) (by simp [ext_size]; omega) (by simp [ext_size])
  | cons t rest =>
    obtain ⟨i, j, k⟩ := t
    have Hcb := Lib.hid (show capB cs = false by simp [capB, hL])
    obtain ⟨hi, hj, hk⟩ := first_bd Hd.out.nodup hL
    have Hn := Lib.hid (show stepN n cs = takN n cs i j k by simp [stepN, hL])
    have Hl := Lib.hid (show stepL s n cs = takL s n cs i j k by simp [stepL, hL])
    have gpos : (0 : Int) < (rest.length : Int) + 1 := by omega
    go_enter Try.func66, Try.ntmps66
    go_wp2_with (first | (go_at_call 91; refine (linesIn_c _ _ _ _ (by omega) Hd.out.nodup Hd.out.ok (Hz.out.sl.ex (by exact by repeat (first | exact Ex.refl _ | refine Ex.ext ?_ _ | refine Ex.alloc ?_ _ | refine Ex.drew ?_)))).mono ?_; rw [hL]; rintro e w' ⟨g, cap', rfl, ⟨x, rfl⟩, hrow⟩; have Hrow := Lib.hid hrow; obtain ⟨t0, t1, t2⟩ := tri_cells hrow; clear hrow))
    obtain ⟨_, b0, b1, b2⟩ := (BoxD.alloc2 w s n p cs.length cap (.cells #[.int .i64 0, .int .i64 0, .slice none 0 0] 62)).ex ⟨x, rfl⟩
    (refine region_headH 5 (fun w' => w'.cell? ⟨w.heap.size, 0, none⟩ = some (.int .i64 s) ∧ w'.cell? ⟨w.heap.size, 1, none⟩ = some (.int .i64 n) ∧ w'.cell? ⟨w.heap.size, 2, none⟩ = some (.slice p cs.length cap) ∧ w'.cell? ⟨g, 0, none⟩ = some (.int .i64 i) ∧ w'.cell? ⟨g, 1, none⟩ = some (.int .i64 j) ∧ w'.cell? ⟨g, 2, none⟩ = some (.int .i64 k)) (by kernel_rfl) (by kernel_rfl) (by first | (go_simp; done) | go_keep) (fun hHeld => ?_); simp only [List.size_toArray, List.length_cons, List.length_nil, Nat.zero_add, Nat.reduceAdd])
    (refine headH_take (i := 0) (v := ?_) (by kernel_rfl) (by omega) (by kernel_rfl) (by kernel_rfl) (fun _ _ _ h => h) (Or.inl ⟨by rfl, ?_⟩) (by assumption) ?_; rotate_left 1; (focus (intro w hSw; (try dsimp only at hSw); (try simp only [opOf_succ, opOf_zero]); go_simp <;> with_reducible rfl)); (try simp only [opOf_succ, opOf_zero, Act.put, List.setIfInBounds_toArray, List.set_cons_zero, List.set_cons_succ]))
    (refine headH_take (i := 1) (v := ?_) (by kernel_rfl) (by omega) (by kernel_rfl) (by kernel_rfl) (fun _ _ _ h => h) (Or.inl ⟨by rfl, ?_⟩) (by assumption) ?_; rotate_left 1; (focus (intro w hSw; (try dsimp only at hSw); (try simp only [opOf_succ, opOf_zero]); go_simp <;> with_reducible rfl)); (try simp only [opOf_succ, opOf_zero, Act.put, List.setIfInBounds_toArray, List.set_cons_zero, List.set_cons_succ]))
    (refine headH_take (i := 2) (v := ?_) (by kernel_rfl) (by omega) (by kernel_rfl) (by kernel_rfl) (fun _ _ _ h => h) (Or.inl ⟨by rfl, ?_⟩) (by assumption) ?_; rotate_left 1; (focus (intro w hSw; (try dsimp only at hSw); (try simp only [opOf_succ, opOf_zero]); go_simp <;> with_reducible rfl)); (try simp only [opOf_succ, opOf_zero, Act.put, List.setIfInBounds_toArray, List.set_cons_zero, List.set_cons_succ]))
    (refine headH_take (i := 3) (v := ?_) (by kernel_rfl) (by omega) (by kernel_rfl) (by kernel_rfl) (fun _ _ _ h => h) (Or.inl ⟨by rfl, ?_⟩) (by assumption) ?_; rotate_left 1; (focus (intro w hSw; (try dsimp only at hSw); (try simp only [opOf_succ, opOf_zero]); go_simp <;> with_reducible rfl)); (try simp only [opOf_succ, opOf_zero, Act.put, List.setIfInBounds_toArray, List.set_cons_zero, List.set_cons_succ]))
    (refine headH_one (i := 4) (by kernel_rfl) (by omega) (by simp only [List.length_cons, List.length_nil]; omega) (fun Kx hKx => ?_); (try simp (config := { proj := false }) only [opOf_succ, opOf_zero]); (go_simp; go_at_call 102; refine (take_c _ _ _ _ _ _ _ _ _ Hd.out (by omega) (by omega) (by omega) (Hz.out.ex (by exact by repeat (first | exact Ex.refl _ | refine Ex.ext ?_ _ | refine Ex.alloc ?_ _ | refine Ex.drew ?_)))).mono ?_; rintro e w2 ⟨g2, c2, rfl, ⟨y2, rfl⟩, hr2⟩; simp only [ext_ext, Ext.app_assoc] at hr2; have Hr2 := Lib.hid hr2; clear hr2; go_wp2_with fail); refine hKx.out _ _ ⟨Ex.cell (ex_app _ _ _) b0, Ex.cell (ex_app _ _ _) b1, Ex.cell (ex_app _ _ _) b2, Ex.cell (ex_app _ _ _) t0, Ex.cell (ex_app _ _ _) t1, Ex.cell (ex_app _ _ _) t2⟩ (fun hHeld => ?_); clear hKx Kx; (try simp only [Act.put, List.setIfInBounds_toArray, List.set_cons_zero, List.set_cons_succ]))
    (refine headH_done (by kernel_rfl) ?_; simp only [List.drop_succ_cons, List.drop_zero])
    go_wp2
    have hr2 := Hr2.out
    refine bodyPost_ret (v := .tuple #[.agg #[.int .i64 s, .int .i64 (takN n cs i j k), .slice g2 (takL s n cs i j k).length c2], .bool true]) (by simp only [results, Try.results66]; go_simp) rfl ⟨g2, c2, by rw [Hn.out, Hl.out, Hcb.out]; rfl, by repeat (first | exact Ex.refl _ | refine Ex.ext ?_ _ | refine Ex.alloc ?_ _ | refine Ex.drew ?_), ?_⟩
    rw [Hl.out]
    exact Row.mono (Row.high hr2 (by simp [ext_size]) (by simp [go_sem])) (by simp [ext_size]; omega) (by simp [ext_size])

def playA (s : Int) : Nat → Int → List C4 → Int → Int → Int × Int × List C4
  | 0, _, cs, a, b => (a, b, cs)
  | f + 1, n, cs, a, b => if overB n cs then (a, b, cs) else playA s f (stepN n cs) (stepL s n cs) (if capB cs then a else a + 1) (if capB cs then b + 1 else b)
theorem playA_stop {s : Int} {f : Nat} {n : Int} {cs : List C4} {a b : Int} (h : overB n cs = true) : playA s f n cs a b = (a, b, cs) := by
  cases f with
  | zero => rfl
  | succ f => simp [playA, h]
theorem playA_go {s : Int} {f : Nat} {n : Int} {cs : List C4} {a b : Int} (hD : DealOk s n cs) (h : overB n cs = false) (hf : left n cs ≤ f) :
    ∃ f', f = f' + 1 ∧ left (stepN n cs) (stepL s n cs) ≤ f' ∧ playA s f n cs a b = playA s f' (stepN n cs) (stepL s n cs) (if capB cs then a else a + 1) (if capB cs then b + 1 else b) := by
  have ho : ¬ (n = 81 ∧ linesR cs = []) := by
    have e := over_eq n cs
    rw [h] at e
    exact of_decide_eq_false e
  have hlt := left_step hD ho
  cases f with
  | zero => omega
  | succ f => exact ⟨f, rfl, by omega, by simp [playA, h]⟩
def pdR (s : Int) : Int × Int × List C4 := if isSeed s then playA s 1000 12 ((pileR s).take 12) 0 0 else (0, 0, [])
def pdL (s : Int) : List C4 := if isSeed s then sortU (pdR s).2.2 else []
theorem playA_len {s : Int} : ∀ (f : Nat) {n : Int} {cs : List C4} (a b : Int), DealOk s n cs → (playA s f n cs a b).2.2.length ≤ 81
  | 0, n, cs, a, b, h => by have := h.len; have := h.n1; simp [playA]; omega
  | f + 1, n, cs, a, b, h => by
    unfold playA
    split
    · have := h.len; have := h.n1; simp; omega
    · exact playA_len f _ _ h.step
theorem pdL_len (s : Int) : (pdL s).length ≤ 81 := by
  unfold pdL
  split
  · rename_i h
    have h1 := playA_len 1000 (s := s) 0 0 (nd_ok h)
    have h2 := sortU_len (pdR s).2.2
    simp only [pdR, h, if_true] at h2 ⊢
    omega
  · simp

theorem compact_nil (w : World) : Calls Try.prog 84 #[.slice none 0 0] w fun e w' => e = .returned (.slice none 0 0) ∧ Ex w w' := by
  go_enter Try.func84, Try.ntmps84
  go_wp2
  go_ret
  exact ⟨rfl, by repeat (first | exact Ex.refl _ | refine Ex.ext ?_ _ | refine Ex.alloc ?_ _ | refine Ex.drew ?_)⟩
theorem clone_nil (w : World) : Calls Try.prog 51 #[.slice none 0 0] w fun e w' => e = .returned (.slice none 0 0) ∧ Ex w w' := by
  have hnil : ∀ w : World, (binOp .eql 22 (.slice none 0 0) (.slice none 0 0)).run Try.prog w = .ok (.bool true) w := fun w => Lib.run_eql_slice_nil w _ _ none 0 0 0 0 Try.underlying22
  go_enter Try.func51, Try.ntmps51
  go_wp2
  go_ret
  exact ⟨rfl, by repeat (first | exact Ex.refl _ | refine Ex.ext ?_ _ | refine Ex.alloc ?_ _ | refine Ex.drew ?_)⟩
theorem sorted_nil (w : World) : Calls Try.prog 43 #[.slice none 0 0] w fun e w' => e = .returned (.slice none 0 0) ∧ Ex w w' := by
  go_enter Try.func43, Try.ntmps43
  go_wp2_with (first | (go_at_call 51; refine (clone_nil _).mono ?_; rintro e w' ⟨rfl, x, rfl⟩) |
    (go_at_call 82; refine (Try.slices_SortFunc_none (α := Int) none 0 _ _).mono ?_; rintro e w' ⟨rfl, rfl⟩) |
    (go_at_call 84; refine (compact_nil _).mono ?_; rintro e w' ⟨rfl, x, rfl⟩))
  go_ret
  exact ⟨rfl, by repeat (first | exact Ex.refl _ | refine Ex.ext ?_ _ | refine Ex.alloc ?_ _ | refine Ex.drew ?_)⟩
theorem sorted_row {cs : List C4} {lo hi : Nat} {p : Option Addr} {cap : Nat} {w : World} (hn : cs.length ≤ 100000000) (ho : ∀ z ∈ cs, Ok z) (hr : Row lo hi w p cap cs) :
    Calls Try.prog 43 #[.slice p cs.length cap] w fun e w' => ∃ q cap', e = .returned (.slice q (sortU cs).length cap') ∧ Ex w w' ∧ Row w.heap.size w'.heap.size w' q cap' (sortU cs) := by
  rcases hr.blk with ⟨rfl, rfl, rfl⟩ | ⟨g, cur, rfl, _⟩
  · refine (sorted_nil w).mono ?_
    rintro e w' ⟨rfl, hE⟩
    exact ⟨none, 0, rfl, hE, Row.nil _ _ _⟩
  · refine (sorted_c cs g 0 cap w hn ho hr.sl).mono ?_
    rintro e w' ⟨g, cap', rfl, hE, hr⟩
    exact ⟨some ⟨g, 0, none⟩, cap', rfl, hE, hr.row rfl⟩

theorem specPlayDeal_c (s : Int) (w : World) :
    Calls Try.prog 26 #[.int .i64 s] w fun e w' => ∃ q cap', e = .returned (.tuple #[.int .i64 (pdR s).1, .int .i64 (pdR s).2.1, .slice q (pdL s).length cap', .bool (isSeed s)]) ∧ Ex w w' ∧ Row w.heap.size w'.heap.size w' q cap' (pdL s) := by
  cases h : isSeed s
  · have hR : pdR s = (0, 0, []) := by simp [pdR, h]
    have hL : pdL s = [] := by simp [pdL, h]
    rw [hR, hL]
    clear hR hL
    go_enter Try.func26, Try.ntmps26
    go_wp2_with (go_at_call 59; refine (specNewDeal_c _ _).mono ?_; rw [h]; rintro e w1 ⟨p, cap, rfl, hx, hr⟩)
    refine bodyPost_ret (v := .tuple #[.int .i64 0, .int .i64 0, .slice (some ⟨w1.heap.size + 1, 0, none⟩) 0 0, .bool false]) (by simp only [results, Try.results26]; go_simp) rfl ?_
    exact ⟨some ⟨_, 0, none⟩, 0, by simp, (hx.alloc _).alloc _, (Row.empty _).mono (by have := hx.below.size; simp; omega) (by first | (simp; done) | (simp [ext_size]; done) | (simp [ext_size]; omega) | omega)⟩
  · have hns : ndS s = s := by simp [ndS, h]
    have hnn : ndN s = 12 := by simp [ndN, h]
    have hnl : ndL s = (pileR s).take 12 := by simp [ndL, h]
    have hb := isSeed_bd h
    have h12 := take12 s
    have hok := nd_ok h
    have hsz : pdR s = playA s 1000 12 ((pileR s).take 12) 0 0 := by simp [pdR, h]
    have hLL : pdL s = sortU (pdR s).2.2 := by simp [pdL, h]
    rw [hLL]
    clear hLL
    generalize (pileR s).take 12 = T at *
    go_enter Try.func26, Try.ntmps26
    go_wp2_with (go_at_call 59; refine (specNewDeal_c _ _).mono ?_; rw [h, hns, hnn, hnl, h12]; rintro e w1 ⟨p, cap, rfl, hx, hr⟩)
    have hx1 : Ex w w1 := Ex.trans (by exact by repeat (first | exact Ex.refl _ | refine Ex.ext ?_ _ | refine Ex.alloc ?_ _ | refine Ex.drew ?_)) hx
    have hB0 : w.heap.size ≤ w1.heap.size := hx1.below.size
    go_loopw [8, 9] (fun u v wr => ∃ (a b n : Int) (cs : List C4) (p : Option Addr) (cap f : Nat), u = .int .i64 a ∧ v = .int .i64 b ∧ Ex w wr ∧ wr.heap[w1.heap.size]? = some (.cells #[.int .i64 s, .int .i64 n, .slice p cs.length cap] 62 (0, 0)) ∧ DealOk s n cs ∧
      Row w.heap.size wr.heap.size wr p cap cs ∧ (∀ a, p = some a → a.block ≠ w1.heap.size) ∧ left n cs ≤ f ∧ 0 ≤ a ∧ 0 ≤ b ∧ a + b + f = 1000 ∧ pdR s = playA s f n cs a b) (fun u v _ => 1000 - (intOf u + intOf v).toNat)
    case atStart =>
      refine ⟨0, 0, 12, T, p, cap, 1000, rfl, rfl, hx1.alloc _, by rw [h12]; exact alloc_at rfl, hok, ?_, ?_, by rw [left, h12]; decide, by omega, by omega, by omega, hsz⟩
      · exact (hr.ex ((Ex.refl _).alloc _)).mono (by simp [ext_size]) (by simp)
      · exact fun a e => by have := hr.top a e; omega
    case round =>
      obtain ⟨a, b, n, cs, p', cap', f, rfl, rfl, hE, hb, hd, hp, hpB, hlf, ha0, hb0, hsum, hf⟩ := hrel
      have HE := Lib.hid hE
      have HB := Lib.hid hb
      have HP := Lib.hid hp
      have Hf := Lib.hid hf
      have Hd := Lib.hid hd
      have b0 := blk_cell hb 0
      have b1 := blk_cell hb 1
      have b2 := blk_cell hb 2
      simp at b0 b1 b2
      have hcl : cs.length ≤ 81 := by have := hd.len; have := hd.n1; omega
      have hBw : w1.heap.size < wr.heap.size := (Array.getElem?_eq_some_iff.1 hb).1
      clear hE hb hp hf hd
      cases hov : overB n cs
      · obtain ⟨f', hff, hf', hs'⟩ := playA_go (a := a) (b := b) Hd.out hov hlf
        have Hs := Lib.hid hs'
        clear hs'
        have hwa : IntKind.i64.wrap (a + 1) = a + 1 := IntWalk.i64_in _ (by omega)
        have hwb : IntKind.i64.wrap (b + 1) = b + 1 := IntWalk.i64_in _ (by omega)
        obtain ⟨m, hM⟩ : ∃ m, m = (linesR cs).length := ⟨_, rfl⟩
        have Hcd : Hid (capB cs = decide (m = 0)) := Lib.hid (by rw [hM]; rfl)
        have HM := Lib.hid hM
        have hmb : m ≤ 1000000000000 := by have := lines_small (cs := cs) (by omega); omega
        clear hM
        cases hcb : capB cs
        · have hm : (0 : Int) < (m : Int) := by have := Hcd.out; rw [hcb] at this; have := of_decide_eq_false this.symm; omega
          go_wp2_with (first | (go_at_call 60; refine (l4Over2_c _ _ _ _ _ _ (HP.out.sl.ex (by exact by repeat (first | exact Ex.refl _ | refine Ex.ext ?_ _ | refine Ex.alloc ?_ _ | refine Ex.drew ?_))) Hd.out).mono ?_; rw [hov]; rintro e w' ⟨rfl, x, rfl⟩) | (go_at_call 61; refine (l4Lines_c _ _ _ _ (by omega) Hd.out.nodup Hd.out.ok (HP.out.sl.ex (by exact by repeat (first | exact Ex.refl _ | refine Ex.ext ?_ _ | refine Ex.alloc ?_ _ | refine Ex.drew ?_)))).mono ?_; rw [← HM.out]; rintro e w' ⟨g, cap', rfl, ⟨x, rfl⟩, _⟩) |
          (go_at_call 62; refine (l4Step_c _ _ _ _ _ _ Hd.out (HP.out.src.ex (by exact by repeat (first | exact Ex.refl _ | refine Ex.ext ?_ _ | refine Ex.alloc ?_ _ | refine Ex.drew ?_)))).mono ?_; rintro e w6 ⟨r, c6, rfl, hE6, hr6⟩; have hb6 := hE6.blk (Ex.blk (w := wr) (by exact by repeat (first | exact Ex.refl _ | refine Ex.ext ?_ _ | refine Ex.alloc ?_ _ | refine Ex.drew ?_)) HB.out); have hE7 : Ex wr w6 := Ex.trans (by exact by repeat (first | exact Ex.refl _ | refine Ex.ext ?_ _ | refine Ex.alloc ?_ _ | refine Ex.drew ?_)) hE6; have hlt6 := (Array.getElem?_eq_some_iff.1 hb6).1; rw [setBlk_self hb6]))
          refine ⟨⟨a + 1, b, stepN n cs, stepL s n cs, r, c6, f', rfl, rfl, ?_, ?_, Hd.out.step, ?_, ?_, hf', by omega, by omega, by omega, ?_⟩, ?_⟩
          · exact Keeps.ex (HE.out.trans hE7) (setBlk_keeps _) hB0
          · simp [setBlk_heap]; omega
          · exact (hr6.keeps (setBlk_keeps _) (by have := hE7.below.size; simp [go_sem]; omega)).mono (by have := HE.out.below.size; simp [go_sem]; omega) (by rw [setBlk_size]; exact Nat.le_refl _)
          · exact hr6.past (by simp [go_sem]; omega)
          · rw [Hf.out, Hs.out, hcb]; simp
          · simp [intOf]; omega
        · have hm : m = 0 := by have := Hcd.out; rw [hcb] at this; exact of_decide_eq_true this.symm
          go_wp2_with (first | (go_at_call 60; refine (l4Over2_c _ _ _ _ _ _ (HP.out.sl.ex (by exact by repeat (first | exact Ex.refl _ | refine Ex.ext ?_ _ | refine Ex.alloc ?_ _ | refine Ex.drew ?_))) Hd.out).mono ?_; rw [hov]; rintro e w' ⟨rfl, x, rfl⟩) | (go_at_call 61; refine (l4Lines_c _ _ _ _ (by omega) Hd.out.nodup Hd.out.ok (HP.out.sl.ex (by exact by repeat (first | exact Ex.refl _ | refine Ex.ext ?_ _ | refine Ex.alloc ?_ _ | refine Ex.drew ?_)))).mono ?_; rw [← HM.out]; rintro e w' ⟨g, cap', rfl, ⟨x, rfl⟩, _⟩) |
          (go_at_call 62; refine (l4Step_c _ _ _ _ _ _ Hd.out (HP.out.src.ex (by exact by repeat (first | exact Ex.refl _ | refine Ex.ext ?_ _ | refine Ex.alloc ?_ _ | refine Ex.drew ?_)))).mono ?_; rintro e w6 ⟨r, c6, rfl, hE6, hr6⟩; have hb6 := hE6.blk (Ex.blk (w := wr) (by exact by repeat (first | exact Ex.refl _ | refine Ex.ext ?_ _ | refine Ex.alloc ?_ _ | refine Ex.drew ?_)) HB.out); have hE7 : Ex wr w6 := Ex.trans (by exact by repeat (first | exact Ex.refl _ | refine Ex.ext ?_ _ | refine Ex.alloc ?_ _ | refine Ex.drew ?_)) hE6; have hlt6 := (Array.getElem?_eq_some_iff.1 hb6).1; rw [setBlk_self hb6]))
          refine ⟨⟨a, b + 1, stepN n cs, stepL s n cs, r, c6, f', rfl, rfl, ?_, ?_, Hd.out.step, ?_, ?_, hf', by omega, by omega, by omega, ?_⟩, ?_⟩
          · exact Keeps.ex (HE.out.trans hE7) (setBlk_keeps _) hB0
          · simp [setBlk_heap]; omega
          · exact (hr6.keeps (setBlk_keeps _) (by have := hE7.below.size; simp [go_sem]; omega)).mono (by have := HE.out.below.size; simp [go_sem]; omega) (by rw [setBlk_size]; exact Nat.le_refl _)
          · exact hr6.past (by simp [go_sem]; omega)
          · rw [Hf.out, Hs.out, hcb]; simp
          · simp [intOf]; omega
      · have hst : pdR s = (a, b, cs) := by rw [Hf.out, playA_stop hov]
        go_wp2_with (first | (go_at_call 60; refine (l4Over2_c _ _ _ _ _ _ (HP.out.sl.ex (by exact by repeat (first | exact Ex.refl _ | refine Ex.ext ?_ _ | refine Ex.alloc ?_ _ | refine Ex.drew ?_))) Hd.out).mono ?_; rw [hov]; rintro e w' ⟨rfl, x, rfl⟩) | (go_at_call 41; refine (l2Sorted_c cs _ _ _ (by omega) Hd.out.ok (HP.out.sl.ex (by exact by repeat (first | exact Ex.refl _ | refine Ex.ext ?_ _ | refine Ex.alloc ?_ _ | refine Ex.drew ?_)))).mono ?_; rintro e w7 ⟨g7, c7, rfl, hE7, hr7⟩; have hE8 : Ex wr w7 := Ex.trans (by exact by repeat (first | exact Ex.refl _ | refine Ex.ext ?_ _ | refine Ex.alloc ?_ _ | refine Ex.drew ?_)) hE7; have hlo7 := hE7.below))
        refine bodyPost_ret (v := .tuple #[.int .i64 a, .int .i64 b, .slice (some ⟨g7, 0, none⟩) (sortU cs).length c7, .bool true]) (by simp only [results, Try.results26]; go_simp) rfl ?_
        rw [hst]
        exact ⟨some ⟨g7, 0, none⟩, c7, by simp, HE.out.trans hE8, (hr7.row rfl).mono (by have := HE.out.below.size; simp [go_sem]; omega) (Nat.le_refl _)⟩

theorem implPlayDeal_c (s : Int) (w : World) :
    Calls Try.prog 27 #[.int .i64 s] w fun e w' => ∃ q cap', e = .returned (.tuple #[.int .i64 (pdR s).1, .int .i64 (pdR s).2.1, .slice q (pdL s).length cap', .bool (isSeed s)]) ∧ Ex w w' ∧ Row w.heap.size w'.heap.size w' q cap' (pdL s) := by
  cases h : isSeed s
  · have hR : pdR s = (0, 0, []) := by simp [pdR, h]
    have hL : pdL s = [] := by simp [pdL, h]
    rw [hR, hL]
    clear hR hL
    go_enter Try.func27, Try.ntmps27
    go_wp2_with (go_at_call 63; refine (isSeed_c _ _).mono ?_; rintro e w' ⟨rfl, x, rfl⟩; rw [h])
    refine bodyPost_ret (v := .tuple #[.int .i64 0, .int .i64 0, .slice none 0 0, .bool false]) (by simp only [results, Try.results27]; go_simp) rfl ?_
    exact ⟨none, 0, by simp, by repeat (first | exact Ex.refl _ | refine Ex.ext ?_ _ | refine Ex.alloc ?_ _ | refine Ex.drew ?_), Row.nil _ _ _⟩
  · have hns : ndS s = s := by simp [ndS, h]
    have hnn : ndN s = 12 := by simp [ndN, h]
    have hnl : ndL s = (pileR s).take 12 := by simp [ndL, h]
    have hb := isSeed_bd h
    have h12 := take12 s
    have hok := nd_ok h
    have hsz : pdR s = playA s 1000 12 ((pileR s).take 12) 0 0 := by simp [pdR, h]
    have hLL : pdL s = sortU (pdR s).2.2 := by simp [pdL, h]
    rw [hLL]
    clear hLL
    have hN := Lib.hid (newDeal_c s hb.1 hb.2)
    generalize (pileR s).take 12 = T at *
    go_enter Try.func27, Try.ntmps27
    go_wp2_with (first | (go_at_call 63; refine (isSeed_c _ _).mono ?_; rintro e w' ⟨rfl, x, rfl⟩; rw [h]) | (go_at_call 64; refine (hN.out _).mono ?_; rintro e w1 ⟨p, cap, rfl, hx, hr⟩))
    have hx1 : Ex w w1 := Ex.trans (by exact by repeat (first | exact Ex.refl _ | refine Ex.ext ?_ _ | refine Ex.alloc ?_ _ | refine Ex.drew ?_)) hx
    have hB0 : w.heap.size ≤ w1.heap.size := hx1.below.size
    go_loopw [7, 8] (fun u v wr => ∃ (a b n : Int) (cs : List C4) (p : Option Addr) (cap f : Nat), u = .int .i64 a ∧ v = .int .i64 b ∧ Ex w wr ∧ wr.heap[w1.heap.size]? = some (.cells #[.int .i64 s, .int .i64 n, .slice p cs.length cap] 62 (0, 0)) ∧ DealOk s n cs ∧
      Row w.heap.size wr.heap.size wr p cap cs ∧ (∀ a, p = some a → a.block ≠ w1.heap.size) ∧ left n cs ≤ f ∧ 0 ≤ a ∧ 0 ≤ b ∧ a + b + f = 1000 ∧ pdR s = playA s f n cs a b) (fun u v _ => 1000 - (intOf u + intOf v).toNat)
    case atStart =>
      refine ⟨0, 0, 12, T, p, cap, 1000, rfl, rfl, hx1.alloc _, by rw [h12]; exact alloc_at rfl, hok, ?_, ?_, by rw [left, h12]; decide, by omega, by omega, by omega, hsz⟩
      · exact (hr.ex ((Ex.refl _).alloc _)).mono (by simp [ext_size]) (by simp)
      · exact fun a e => by have := hr.top a e; omega
    case round =>
      obtain ⟨a, b, n, cs, p', cap', f, rfl, rfl, hE, hb, hd, hp, hpB, hlf, ha0, hb0, hsum, hf⟩ := hrel
      have HE := Lib.hid hE
      have HB := Lib.hid hb
      have HP := Lib.hid hp
      have Hf := Lib.hid hf
      have Hd := Lib.hid hd
      have b0 := blk_cell hb 0
      have b1 := blk_cell hb 1
      have b2 := blk_cell hb 2
      simp at b0 b1 b2
      have hcl : cs.length ≤ 81 := by have := hd.len; have := hd.n1; omega
      have hBw : w1.heap.size < wr.heap.size := (Array.getElem?_eq_some_iff.1 hb).1
      clear hE hb hp hf hd
      cases hov : overB n cs
      · obtain ⟨f', hff, hf', hs'⟩ := playA_go (a := a) (b := b) Hd.out hov hlf
        have Hs := Lib.hid hs'
        clear hs'
        have hwa : IntKind.i64.wrap (a + 1) = a + 1 := IntWalk.i64_in _ (by omega)
        have hwb : IntKind.i64.wrap (b + 1) = b + 1 := IntWalk.i64_in _ (by omega)
        obtain ⟨m, hM⟩ : ∃ m, m = (linesR cs).length := ⟨_, rfl⟩
        have Hcd : Hid (capB cs = decide (m = 0)) := Lib.hid (by rw [hM]; rfl)
        have HM := Lib.hid hM
        have hmb : m ≤ 1000000000000 := by have := lines_small (cs := cs) (by omega); omega
        clear hM
        cases hcb : capB cs
        · have hm : (0 : Int) < (m : Int) := by have := Hcd.out; rw [hcb] at this; have := of_decide_eq_false this.symm; omega
          go_wp2_with (first | (go_at_call 65; refine (isOver2_c _ _ _ _ _ _ (HP.out.sl.ex (by exact by repeat (first | exact Ex.refl _ | refine Ex.ext ?_ _ | refine Ex.alloc ?_ _ | refine Ex.drew ?_))) Hd.out).mono ?_; rw [hov]; rintro e w' ⟨rfl, x, rfl⟩) | (go_at_call 66; refine (step_t _ _ _ _ _ _ Hd.out (HP.out.src.ex (by exact by repeat (first | exact Ex.refl _ | refine Ex.ext ?_ _ | refine Ex.alloc ?_ _ | refine Ex.drew ?_)))).mono ?_; rw [hcb]; rintro e w6 ⟨r, c6, rfl, hE6, hr6⟩; have hb6 := hE6.blk (Ex.blk (w := wr) (by exact by repeat (first | exact Ex.refl _ | refine Ex.ext ?_ _ | refine Ex.alloc ?_ _ | refine Ex.drew ?_)) HB.out); have hE7 : Ex wr w6 := Ex.trans (by exact by repeat (first | exact Ex.refl _ | refine Ex.ext ?_ _ | refine Ex.alloc ?_ _ | refine Ex.drew ?_)) hE6; have hlt6 := (Array.getElem?_eq_some_iff.1 hb6).1; rw [setBlk_self hb6]))
          refine ⟨⟨a + 1, b, stepN n cs, stepL s n cs, r, c6, f', rfl, rfl, ?_, ?_, Hd.out.step, ?_, ?_, hf', by omega, by omega, by omega, ?_⟩, ?_⟩
          · exact Keeps.ex (HE.out.trans hE7) (setBlk_keeps _) hB0
          · simp [setBlk_heap]; omega
          · exact (hr6.keeps (setBlk_keeps _) (by have := hE7.below.size; simp [go_sem]; omega)).mono (by have := HE.out.below.size; simp [go_sem]; omega) (by rw [setBlk_size]; exact Nat.le_refl _)
          · exact hr6.past (by simp [go_sem]; omega)
          · rw [Hf.out, Hs.out, hcb]; simp
          · simp [intOf]; omega
        · have hm : m = 0 := by have := Hcd.out; rw [hcb] at this; exact of_decide_eq_true this.symm
          go_wp2_with (first | (go_at_call 65; refine (isOver2_c _ _ _ _ _ _ (HP.out.sl.ex (by exact by repeat (first | exact Ex.refl _ | refine Ex.ext ?_ _ | refine Ex.alloc ?_ _ | refine Ex.drew ?_))) Hd.out).mono ?_; rw [hov]; rintro e w' ⟨rfl, x, rfl⟩) | (go_at_call 66; refine (step_t _ _ _ _ _ _ Hd.out (HP.out.src.ex (by exact by repeat (first | exact Ex.refl _ | refine Ex.ext ?_ _ | refine Ex.alloc ?_ _ | refine Ex.drew ?_)))).mono ?_; rw [hcb]; rintro e w6 ⟨r, c6, rfl, hE6, hr6⟩; have hb6 := hE6.blk (Ex.blk (w := wr) (by exact by repeat (first | exact Ex.refl _ | refine Ex.ext ?_ _ | refine Ex.alloc ?_ _ | refine Ex.drew ?_)) HB.out); have hE7 : Ex wr w6 := Ex.trans (by exact by repeat (first | exact Ex.refl _ | refine Ex.ext ?_ _ | refine Ex.alloc ?_ _ | refine Ex.drew ?_)) hE6; have hlt6 := (Array.getElem?_eq_some_iff.1 hb6).1; rw [setBlk_self hb6]))
          refine ⟨⟨a, b + 1, stepN n cs, stepL s n cs, r, c6, f', rfl, rfl, ?_, ?_, Hd.out.step, ?_, ?_, hf', by omega, by omega, by omega, ?_⟩, ?_⟩
          · exact Keeps.ex (HE.out.trans hE7) (setBlk_keeps _) hB0
          · simp [setBlk_heap]; omega
          · exact (hr6.keeps (setBlk_keeps _) (by have := hE7.below.size; simp [go_sem]; omega)).mono (by have := HE.out.below.size; simp [go_sem]; omega) (by rw [setBlk_size]; exact Nat.le_refl _)
          · exact hr6.past (by simp [go_sem]; omega)
          · rw [Hf.out, Hs.out, hcb]; simp
          · simp [intOf]; omega
      · have hst : pdR s = (a, b, cs) := by rw [Hf.out, playA_stop hov]
        go_wp2_with (first | (go_at_call 65; refine (isOver2_c _ _ _ _ _ _ (HP.out.sl.ex (by exact by repeat (first | exact Ex.refl _ | refine Ex.ext ?_ _ | refine Ex.alloc ?_ _ | refine Ex.drew ?_))) Hd.out).mono ?_; rw [hov]; rintro e w' ⟨rfl, x, rfl⟩) | (go_at_call 43; refine (sorted_row (by omega) Hd.out.ok (HP.out.ex (by exact by repeat (first | exact Ex.refl _ | refine Ex.ext ?_ _ | refine Ex.alloc ?_ _ | refine Ex.drew ?_)))).mono ?_; rintro e w7 ⟨q7, c7, rfl, hE7, hr7⟩; have hE8 : Ex wr w7 := Ex.trans (by exact by repeat (first | exact Ex.refl _ | refine Ex.ext ?_ _ | refine Ex.alloc ?_ _ | refine Ex.drew ?_)) hE7))
        refine bodyPost_ret (v := .tuple #[.int .i64 a, .int .i64 b, .slice q7 (sortU cs).length c7, .bool true]) (by simp only [results, Try.results27]; go_simp) rfl ?_
        rw [hst]
        exact ⟨q7, c7, by simp, HE.out.trans hE8, hr7.mono (by have := HE.out.below.size; simp [go_sem]; omega) (Nat.le_refl _)⟩

theorem fnExactPlayDeal_walk (s : Int) (hs : (Lit.int .i64 s).wf = true) (w : World) : Calls Try.prog 7 #[.int .i64 s] w fun e w' => e = .returned (.bool true) ∧ Below w.heap.size w w' := by
  clear hs
  have hlen := pdL_len s
  go_enter Try.func7, Try.ntmps7
  go_wp2_with (go_at_call 26; refine (specPlayDeal_c _ _).mono ?_; rintro e w1 ⟨p, cap, rfl, hx1, hr⟩)
  go_wp2_with (go_at_call 27; refine (implPlayDeal_c _ _).mono ?_; rintro e w2 ⟨p1, cap1, rfl, hx2, hr1⟩; have hr := hr.ex hx2)
  go_wp2_with (go_at_call 16; refine (eqA4S_c _ _ _ _ _ _ _ (by omega) (by omega) hr1.sl hr.sl).mono ?_; rintro e w3 ⟨rfl, hx3⟩; have hr := hr.ex hx3; have hr1 := hr1.ex hx3)
  go_wp2_with (go_at_call 17; refine (markA4S_c _ _ _ _ _ _ _ (by omega) (by omega) (by omega) hr1).mono ?_; rintro e w4 ⟨rfl, hr1, ha⟩; have hr := ha.row hr (Or.inl (Nat.le_refl _)))
  go_wp2_with (go_at_call 18; refine (heldA4S_c _ _ _ _ _ (by omega) (by omega) (by omega) hr1.sl).mono ?_; rintro e w5 ⟨rfl, hx5⟩; have hr := hr.ex hx5; have hr1 := hr1.ex hx5)
  go_wp2_with (go_at_call 27; refine (implPlayDeal_c _ _).mono ?_; rintro e w6 ⟨p2, cap2, rfl, hx6, hr2⟩; have hr := hr.ex hx6; have hr1 := hr1.ex hx6)
  go_wp2_with (go_at_call 16; refine (eqA4S_c _ _ _ _ _ _ _ (by omega) (by omega) hr2.sl hr.sl).mono ?_; rintro e w7 ⟨rfl, hx7⟩; have hr1 := hr1.ex hx7)
  go_wp2_with (go_at_call 18; refine (heldA4S_c _ _ _ _ _ (by omega) (by omega) (by omega) hr1.sl).mono ?_; rintro e w8 ⟨rfl, hx8⟩)
  go_ret
  refine ⟨rfl, ?_⟩
  have h3 : Ex w w3 := (by repeat (first | exact Ex.refl _ | assumption | refine Ex.ext ?_ _ | refine Ex.alloc ?_ _ | refine Ex.drew ?_ | refine Ex.trans ?_ (by assumption)))
  have h8 : Ex w4 w8 := (by repeat (first | exact Ex.refl _ | assumption | refine Ex.ext ?_ _ | refine Ex.alloc ?_ _ | refine Ex.drew ?_ | refine Ex.trans ?_ (by assumption)))
  exact below_ex (below_apart h3.below ha hx1.below.size) h8
end Go.Proofs.Ytnjfkgggebhelaa
