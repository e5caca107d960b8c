/- The walks of l4Step and step. -/
import Derived.Test.YtkelmfdbcicojaaTakeI
namespace Go.Proofs.Ytkelmfdbcicojaa
set_option linter.unusedSimpArgs false
set_option linter.unusedVariables false
set_option maxHeartbeats 1000000
set_option maxRecDepth 100000
open Go.RowKit


theorem ex_app (w : World) (x z : Ext) : Ex (ext w x) (ext w (x.app z)) := ⟨z, by rw [ext_ext]⟩
theorem tri_cells {w : World} {g lo cap : Nat} {i j k : Nat} {rest : List (Nat × Nat × Nat)} (h : RowV 33 3 lo w g cap (rest.length + 1) (intVals (triInts ((i, j, k) :: rest)))) :
    w.cell? ⟨g, 0, none⟩ = some (.int .i64 i) ∧ w.cell? ⟨g, 1, none⟩ = some (.int .i64 j) ∧ w.cell? ⟨g, 2, none⟩ = some (.int .i64 k) := by
  have hs := (RowV.rowZ h).sl
  refine ⟨?_, ?_, ?_⟩
  · obtain ⟨b, o, e, _, h1⟩ := hs 0 (by simp [triInts])
    cases e; simpa [triInts] using h1
  · obtain ⟨b, o, e, _, h1⟩ := hs 1 (by simp [triInts])
    cases e; simpa [triInts] using h1
  · obtain ⟨b, o, e, _, h1⟩ := hs 2 (by simp [triInts])
    cases e; simpa [triInts] using h1
theorem first_bd {cs : List C4} (hn : cs.Nodup) {i j k : Nat} {rest : List (Nat × Nat × Nat)} (h : linesR cs = (i, j, k) :: rest) : i < cs.length ∧ j < cs.length ∧ k < cs.length := by
  have : (i, j, k) ∈ linesR cs := by rw [h]; exact List.mem_cons_self
  obtain ⟨h1, h2, h3, _⟩ := (mem_linesR hn i j k).1 this
  omega

theorem l4Step_c (s n : Int) (cs : List C4) (p : Option Addr) (cap : Nat) (w : World) (hD : DealOk s n cs) (hz : Src w (.slice p cs.length cap) cs) :
    Calls Try.prog 77 #[.agg #[.int .i64 s, .int .i64 n, .slice p cs.length cap]] w fun e w' => ∃ r cap', e = .returned (.agg #[.int .i64 s, .int .i64 (stepN n cs), .slice r (stepL s n cs).length cap']) ∧ Ex w w' ∧ Row w.heap.size w'.heap.size w' r cap' (stepL s n cs) := by
  have hlen : cs.length ≤ 81 := by have := hD.len; have := hD.n1; omega
  have Hd := Lib.hid hD
  have Hz := Lib.hid hz
  clear hD hz
  cases hL : linesR cs with
  | nil =>
    have Hn := Lib.hid (show stepN n cs = layN n 3 by simp [stepN, hL])
    have Hl := Lib.hid (show stepL s n cs = layL s n cs 3 by simp [stepL, hL])
    go_enter Try.func77, Try.ntmps77
    go_wp2_with (first | (go_at_call 64; refine (l4Lines_c _ _ _ _ (by omega) Hd.out.nodup Hd.out.ok (Hz.out.sl.ex (by exact by repeat (first | exact Ex.refl _ | refine Ex.ext ?_ _ | refine Ex.alloc ?_ _ | refine Ex.drew ?_)))).mono ?_; rw [hL]; rintro e w' ⟨g, cap', rfl, ⟨x, rfl⟩, _⟩) | (go_at_call 65; refine (l4Lay_c _ _ _ _ _ 3 _ Hd.out (by omega) (by omega) (Hz.out.ex (by exact by repeat (first | exact Ex.refl _ | refine Ex.ext ?_ _ | refine Ex.alloc ?_ _ | refine Ex.drew ?_)))).mono ?_; rintro e w2 ⟨g2, c2, rfl, ⟨y2, rfl⟩, hr2⟩; simp only [ext_ext, Ext.app_assoc] at hr2; have Hr2 := Lib.hid hr2; clear hr2))
    have hr2 := Hr2.out
    refine bodyPost_ret (v := .agg #[.int .i64 s, .int .i64 (layN n 3), .slice (some ⟨g2, 0, none⟩) (layL s n cs 3).length c2]) (by simp only [results, Try.results77]; go_simp) rfl ⟨some ⟨g2, 0, none⟩, c2, by rw [Hn.out, Hl.out], by repeat (first | exact Ex.refl _ | refine Ex.ext ?_ _ | refine Ex.alloc ?_ _ | refine Ex.drew ?_), ?_⟩
    rw [Hl.out]
    exact Row.mono (Row.high hr2 (by simp [ext_size]) (by simp [go_sem])) (by simp [ext_size]; omega) (by simp [ext_size])
  | cons t rest =>
    obtain ⟨i, j, k⟩ := t
    obtain ⟨hi, hj, hk⟩ := first_bd Hd.out.nodup hL
    have Hn := Lib.hid (show stepN n cs = takN n cs i j k by simp [stepN, hL])
    have Hl := Lib.hid (show stepL s n cs = takL s n cs i j k by simp [stepL, hL])
    go_enter Try.func77, Try.ntmps77
    go_wp2_with (first | (go_at_call 64; refine (l4Lines_c _ _ _ _ (by omega) Hd.out.nodup Hd.out.ok (Hz.out.sl.ex (by exact by repeat (first | exact Ex.refl _ | refine Ex.ext ?_ _ | refine Ex.alloc ?_ _ | refine Ex.drew ?_)))).mono ?_; rw [hL]; rintro e w' ⟨g, cap', rfl, ⟨x, rfl⟩, hrow⟩; have Hrow := Lib.hid hrow; obtain ⟨t0, t1, t2⟩ := tri_cells hrow; clear hrow))
    obtain ⟨_, b0, b1, b2⟩ := (BoxD.alloc2 w s n p cs.length cap (.cells #[.int .i64 0, .int .i64 0, .slice none 0 0] 26)).ex ⟨x, rfl⟩
    (refine region_headH 5 (fun w' => w'.cell? ⟨w.heap.size, 0, none⟩ = some (.int .i64 s) ∧ w'.cell? ⟨w.heap.size, 1, none⟩ = some (.int .i64 n) ∧ w'.cell? ⟨w.heap.size, 2, none⟩ = some (.slice p cs.length cap) ∧ w'.cell? ⟨g, 0, none⟩ = some (.int .i64 i) ∧ w'.cell? ⟨g, 1, none⟩ = some (.int .i64 j) ∧ w'.cell? ⟨g, 2, none⟩ = some (.int .i64 k)) (by kernel_rfl) (by kernel_rfl) (by first | (go_simp; done) | go_keep) (fun hHeld => ?_); simp only [List.size_toArray, List.length_cons, List.length_nil, Nat.zero_add, Nat.reduceAdd])
    (refine headH_take (i := 0) (v := ?_) (by kernel_rfl) (by omega) (by kernel_rfl) (by kernel_rfl) (fun _ _ _ h => h) (Or.inl ⟨by rfl, ?_⟩) (by assumption) ?_; rotate_left 1; (focus (intro w hSw; (try dsimp only at hSw); (try simp only [opOf_succ, opOf_zero]); go_simp <;> with_reducible rfl)); (try simp only [opOf_succ, opOf_zero, Act.put, List.setIfInBounds_toArray, List.set_cons_zero, List.set_cons_succ]))
    (refine headH_take (i := 1) (v := ?_) (by kernel_rfl) (by omega) (by kernel_rfl) (by kernel_rfl) (fun _ _ _ h => h) (Or.inl ⟨by rfl, ?_⟩) (by assumption) ?_; rotate_left 1; (focus (intro w hSw; (try dsimp only at hSw); (try simp only [opOf_succ, opOf_zero]); go_simp <;> with_reducible rfl)); (try simp only [opOf_succ, opOf_zero, Act.put, List.setIfInBounds_toArray, List.set_cons_zero, List.set_cons_succ]))
    (refine headH_take (i := 2) (v := ?_) (by kernel_rfl) (by omega) (by kernel_rfl) (by kernel_rfl) (fun _ _ _ h => h) (Or.inl ⟨by rfl, ?_⟩) (by assumption) ?_; rotate_left 1; (focus (intro w hSw; (try dsimp only at hSw); (try simp only [opOf_succ, opOf_zero]); go_simp <;> with_reducible rfl)); (try simp only [opOf_succ, opOf_zero, Act.put, List.setIfInBounds_toArray, List.set_cons_zero, List.set_cons_succ]))
    (refine headH_take (i := 3) (v := ?_) (by kernel_rfl) (by omega) (by kernel_rfl) (by kernel_rfl) (fun _ _ _ h => h) (Or.inl ⟨by rfl, ?_⟩) (by assumption) ?_; rotate_left 1; (focus (intro w hSw; (try dsimp only at hSw); (try simp only [opOf_succ, opOf_zero]); go_simp <;> with_reducible rfl)); (try simp only [opOf_succ, opOf_zero, Act.put, List.setIfInBounds_toArray, List.set_cons_zero, List.set_cons_succ]))
    (refine headH_one (i := 4) (by kernel_rfl) (by omega) (by simp only [List.length_cons, List.length_nil]; omega) (fun Kx hKx => ?_); (try simp (config := { proj := false }) only [opOf_succ, opOf_zero]); (go_simp; go_at_call 72; refine (l4Take_c _ _ _ _ _ _ _ _ _ Hd.out (by omega) (by omega) (by omega) (Hz.out.ex (by exact by repeat (first | exact Ex.refl _ | refine Ex.ext ?_ _ | refine Ex.alloc ?_ _ | refine Ex.drew ?_)))).mono ?_; rintro e w2 ⟨g2, c2, rfl, ⟨y2, rfl⟩, hr2⟩; simp only [ext_ext, Ext.app_assoc] at hr2; have Hr2 := Lib.hid hr2; clear hr2; go_wp2_with fail); refine hKx.out _ _ ⟨Ex.cell (ex_app _ _ _) b0, Ex.cell (ex_app _ _ _) b1, Ex.cell (ex_app _ _ _) b2, Ex.cell (ex_app _ _ _) t0, Ex.cell (ex_app _ _ _) t1, Ex.cell (ex_app _ _ _) t2⟩ (fun hHeld => ?_); clear hKx Kx; (try simp only [Act.put, List.setIfInBounds_toArray, List.set_cons_zero, List.set_cons_succ]))
    (refine headH_done (by kernel_rfl) ?_; simp only [List.drop_succ_cons, List.drop_zero])
    go_wp2
    have hr2 := Hr2.out
    refine bodyPost_ret (v := .agg #[.int .i64 s, .int .i64 (takN n cs i j k), .slice (some ⟨g2, 0, none⟩) (takL s n cs i j k).length c2]) (by simp only [results, Try.results77]; go_simp) rfl ⟨some ⟨g2, 0, none⟩, c2, by rw [Hn.out, Hl.out], by repeat (first | exact Ex.refl _ | refine Ex.ext ?_ _ | refine Ex.alloc ?_ _ | refine Ex.drew ?_), ?_⟩
    rw [Hl.out]
    exact Row.mono (Row.high hr2 (by simp [ext_size]) (by simp [go_sem])) (by simp [ext_size]; omega) (by simp [ext_size])

theorem step_c (s n : Int) (cs : List C4) (p : Option Addr) (cap : Nat) (w : World) (hD : DealOk s n cs) (hz : Src w (.slice p cs.length cap) cs) :
    Calls Try.prog 78 #[.agg #[.int .i64 s, .int .i64 n, .slice p cs.length cap]] w fun e w' => ∃ r cap' t, e = .returned (.tuple #[.agg #[.int .i64 s, .int .i64 (stepN n cs), .slice r (stepL s n cs).length cap'], .bool t]) ∧ Ex w w' ∧ Row w.heap.size w'.heap.size w' r cap' (stepL s n cs) := by
  have hlen : cs.length ≤ 81 := by have := hD.len; have := hD.n1; omega
  have Hd := Lib.hid hD
  have Hz := Lib.hid hz
  clear hD hz
  cases hL : linesR cs with
  | nil =>
    have Hn := Lib.hid (show stepN n cs = layN n 3 by simp [stepN, hL])
    have Hl := Lib.hid (show stepL s n cs = layL s n cs 3 by simp [stepL, hL])
    go_enter Try.func78, Try.ntmps78
    go_wp2_with (first | (go_at_call 74; refine (linesIn_c _ _ _ _ (by omega) Hd.out.nodup Hd.out.ok (Hz.out.sl.ex (by exact by repeat (first | exact Ex.refl _ | refine Ex.ext ?_ _ | refine Ex.alloc ?_ _ | refine Ex.drew ?_)))).mono ?_; rw [hL]; rintro e w' ⟨g, cap', rfl, ⟨x, rfl⟩, _⟩) | (go_at_call 69; refine (lay_c _ _ _ _ _ 3 _ Hd.out (by omega) (by omega) (Hz.out.ex (by exact by repeat (first | exact Ex.refl _ | refine Ex.ext ?_ _ | refine Ex.alloc ?_ _ | refine Ex.drew ?_)))).mono ?_; rintro e w2 ⟨r2, c2, rfl, ⟨y2, rfl⟩, hr2⟩; simp only [ext_ext, Ext.app_assoc] at hr2; have Hr2 := Lib.hid hr2; clear hr2))
    have hr2 := Hr2.out
    refine bodyPost_ret (v := .tuple #[.agg #[.int .i64 s, .int .i64 (layN n 3), .slice r2 (layL s n cs 3).length c2], .bool false]) (by simp only [results, Try.results78]; go_simp) rfl ⟨r2, c2, false, by rw [Hn.out, Hl.out], by repeat (first | exact Ex.refl _ | refine Ex.ext ?_ _ | refine Ex.alloc ?_ _ | refine Ex.drew ?_), ?_⟩
    rw [Hl.out]
    exact Row.mono (Row.high hr2 (by simp [ext_size]) (by simp [go_sem])) (by simp [ext_size]; omega) (by simp [ext_size])
  | cons t rest =>
    obtain ⟨i, j, k⟩ := t
    obtain ⟨hi, hj, hk⟩ := first_bd Hd.out.nodup hL
    have Hn := Lib.hid (show stepN n cs = takN n cs i j k by simp [stepN, hL])
    have Hl := Lib.hid (show stepL s n cs = takL s n cs i j k by simp [stepL, hL])
    have gpos : (0 : Int) < (rest.length : Int) + 1 := by omega
    go_enter Try.func78, Try.ntmps78
    go_wp2_with (first | (go_at_call 74; refine (linesIn_c _ _ _ _ (by omega) Hd.out.nodup Hd.out.ok (Hz.out.sl.ex (by exact by repeat (first | exact Ex.refl _ | refine Ex.ext ?_ _ | refine Ex.alloc ?_ _ | refine Ex.drew ?_)))).mono ?_; rw [hL]; rintro e w' ⟨g, cap', rfl, ⟨x, rfl⟩, hrow⟩; have Hrow := Lib.hid hrow; obtain ⟨t0, t1, t2⟩ := tri_cells hrow; clear hrow))
    obtain ⟨_, b0, b1, b2⟩ := (BoxD.alloc2 w s n p cs.length cap (.cells #[.int .i64 0, .int .i64 0, .slice none 0 0] 26)).ex ⟨x, rfl⟩
    (refine region_headH 5 (fun w' => w'.cell? ⟨w.heap.size, 0, none⟩ = some (.int .i64 s) ∧ w'.cell? ⟨w.heap.size, 1, none⟩ = some (.int .i64 n) ∧ w'.cell? ⟨w.heap.size, 2, none⟩ = some (.slice p cs.length cap) ∧ w'.cell? ⟨g, 0, none⟩ = some (.int .i64 i) ∧ w'.cell? ⟨g, 1, none⟩ = some (.int .i64 j) ∧ w'.cell? ⟨g, 2, none⟩ = some (.int .i64 k)) (by kernel_rfl) (by kernel_rfl) (by first | (go_simp; done) | go_keep) (fun hHeld => ?_); simp only [List.size_toArray, List.length_cons, List.length_nil, Nat.zero_add, Nat.reduceAdd])
    (refine headH_take (i := 0) (v := ?_) (by kernel_rfl) (by omega) (by kernel_rfl) (by kernel_rfl) (fun _ _ _ h => h) (Or.inl ⟨by rfl, ?_⟩) (by assumption) ?_; rotate_left 1; (focus (intro w hSw; (try dsimp only at hSw); (try simp only [opOf_succ, opOf_zero]); go_simp <;> with_reducible rfl)); (try simp only [opOf_succ, opOf_zero, Act.put, List.setIfInBounds_toArray, List.set_cons_zero, List.set_cons_succ]))
    (refine headH_take (i := 1) (v := ?_) (by kernel_rfl) (by omega) (by kernel_rfl) (by kernel_rfl) (fun _ _ _ h => h) (Or.inl ⟨by rfl, ?_⟩) (by assumption) ?_; rotate_left 1; (focus (intro w hSw; (try dsimp only at hSw); (try simp only [opOf_succ, opOf_zero]); go_simp <;> with_reducible rfl)); (try simp only [opOf_succ, opOf_zero, Act.put, List.setIfInBounds_toArray, List.set_cons_zero, List.set_cons_succ]))
    (refine headH_take (i := 2) (v := ?_) (by kernel_rfl) (by omega) (by kernel_rfl) (by kernel_rfl) (fun _ _ _ h => h) (Or.inl ⟨by rfl, ?_⟩) (by assumption) ?_; rotate_left 1; (focus (intro w hSw; (try dsimp only at hSw); (try simp only [opOf_succ, opOf_zero]); go_simp <;> with_reducible rfl)); (try simp only [opOf_succ, opOf_zero, Act.put, List.setIfInBounds_toArray, List.set_cons_zero, List.set_cons_succ]))
    (refine headH_take (i := 3) (v := ?_) (by kernel_rfl) (by omega) (by kernel_rfl) (by kernel_rfl) (fun _ _ _ h => h) (Or.inl ⟨by rfl, ?_⟩) (by assumption) ?_; rotate_left 1; (focus (intro w hSw; (try dsimp only at hSw); (try simp only [opOf_succ, opOf_zero]); go_simp <;> with_reducible rfl)); (try simp only [opOf_succ, opOf_zero, Act.put, List.setIfInBounds_toArray, List.set_cons_zero, List.set_cons_succ]))
    (refine headH_one (i := 4) (by kernel_rfl) (by omega) (by simp only [List.length_cons, List.length_nil]; omega) (fun Kx hKx => ?_); (try simp (config := { proj := false }) only [opOf_succ, opOf_zero]); (go_simp; go_at_call 75; refine (take_c _ _ _ _ _ _ _ _ _ Hd.out (by omega) (by omega) (by omega) (Hz.out.ex (by exact by repeat (first | exact Ex.refl _ | refine Ex.ext ?_ _ | refine Ex.alloc ?_ _ | refine Ex.drew ?_)))).mono ?_; rintro e w2 ⟨g2, c2, rfl, ⟨y2, rfl⟩, hr2⟩; simp only [ext_ext, Ext.app_assoc] at hr2; have Hr2 := Lib.hid hr2; clear hr2; go_wp2_with fail); refine hKx.out _ _ ⟨Ex.cell (ex_app _ _ _) b0, Ex.cell (ex_app _ _ _) b1, Ex.cell (ex_app _ _ _) b2, Ex.cell (ex_app _ _ _) t0, Ex.cell (ex_app _ _ _) t1, Ex.cell (ex_app _ _ _) t2⟩ (fun hHeld => ?_); clear hKx Kx; (try simp only [Act.put, List.setIfInBounds_toArray, List.set_cons_zero, List.set_cons_succ]))
    (refine headH_done (by kernel_rfl) ?_; simp only [List.drop_succ_cons, List.drop_zero])
    go_wp2
    have hr2 := Hr2.out
    refine bodyPost_ret (v := .tuple #[.agg #[.int .i64 s, .int .i64 (takN n cs i j k), .slice g2 (takL s n cs i j k).length c2], .bool true]) (by simp only [results, Try.results78]; go_simp) rfl ⟨g2, c2, true, by rw [Hn.out, Hl.out], by repeat (first | exact Ex.refl _ | refine Ex.ext ?_ _ | refine Ex.alloc ?_ _ | refine Ex.drew ?_), ?_⟩
    rw [Hl.out]
    exact Row.mono (Row.high hr2 (by simp [ext_size]) (by simp [go_sem])) (by simp [ext_size]; omega) (by simp [ext_size])
end Go.Proofs.Ytkelmfdbcicojaa
