/- The walk of lay, of the program. -/
import Derived.Test.YtkelmfdbcicojaaConcat
import Derived.Test.YtkelmfdbcicojaaHeld
namespace Go.Proofs.Ytkelmfdbcicojaa
set_option linter.unusedSimpArgs false
set_option linter.unusedVariables false
set_option maxHeartbeats 1000000
set_option maxRecDepth 100000
open Go.RowKit


theorem lay_c (s n : Int) (cs : List C4) (p : Option Addr) (cap : Nat) (k : Int) (w : World) (hD : DealOk s n cs) (hk : 0 ≤ k) (hk2 : k ≤ 100) (hz : Src w (.slice p cs.length cap) cs) :
    Calls Try.prog 69 #[.agg #[.int .i64 s, .int .i64 n, .slice p cs.length cap], .int .i64 k] w fun e w' => ∃ r cap', e = .returned (.agg #[.int .i64 s, .int .i64 (layN n k), .slice r (layL s n cs k).length cap']) ∧ Ex w w' ∧ Row w.heap.size w'.heap.size w' r cap' (layL s n cs k) := by
  have hs0 := hD.s0
  have hs1 := hD.s1
  have hn0 := hD.n0
  have hn1 := hD.n1
  have hlen := hD.len
  have hbd := layN_bd hn0 hn1 hk
  have Hlay := Lib.hid (show layL s n cs k = cs ++ ((pileR s).take (layN n k).toNat).drop n.toNat from rfl)
  have hlayN : layN n k = if 81 < n + k then 81 else n + k := rfl
  generalize layL s n cs k = res at *
  generalize layN n k = m at *
  obtain ⟨N, rfl⟩ : ∃ N : Nat, n = N := ⟨n.toNat, by omega⟩
  obtain ⟨K, rfl⟩ : ∃ K : Nat, m = (N : Int) + (K : Int) := ⟨(m - N).toNat, by omega⟩
  have hNM : N ≤ N + K := by omega
  have hM : N + K ≤ 81 := by omega
  have hwr : IntKind.i64.wrap ((N : Int) + (K : Int)) = (N : Int) + (K : Int) := IntWalk.i64_in _ (by omega)
  have htn : ((N : Int) + (K : Int)).toNat = N + K := by omega
  have hb1 : (0 : Int) ≤ (N : Int) + (K : Int) := by omega
  have hb2 : (N : Int) ≤ (N : Int) + (K : Int) := by omega
  have hkk : (k = K ∧ (K : Int) ≤ 81 - (N : Int)) ∨ (¬ (k ≤ (K : Int)) ∧ 81 - (N : Int) = K) := by
    split at hlayN <;> omega
  have Hz := Lib.hid hz
  have HL : (((pileR s).take (N + K)).drop N).length = N + K - N := by rw [List.length_drop, List.length_take, pileR_length]; omega
  rw [htn, Int.toNat_natCast] at Hlay
  have hres : res.length = cs.length + (N + K - N) := by rw [Hlay.out, List.length_append, HL]
  have HL2 : (((pileR s).take (N + K)).drop N).length = K := by omega
  clear hz hD hbd hlayN
  rcases hkk with ⟨rfl, hle⟩ | ⟨hgt, h81⟩
  all_goals
    go_enter Try.func69, Try.ntmps69
    go_wp2
    (refine region_headH 14 (fun w' => w'.cell? ⟨w.heap.size, 0, none⟩ = some (.int .i64 s) ∧ w'.cell? ⟨w.heap.size, 1, none⟩ = some (.int .i64 N) ∧ w'.cell? ⟨w.heap.size, 2, none⟩ = some (.slice p cs.length cap)) (by kernel_rfl) (by kernel_rfl) (by first | (go_simp; done) | go_keep) (fun hHeld => ?_); simp only [List.size_toArray, List.length_cons, List.length_nil, Nat.zero_add, Nat.reduceAdd])
    (refine headH_take (i := 0) (v := ?_) (by kernel_rfl) (by omega) (by kernel_rfl) (by kernel_rfl) (fun _ _ _ h => h) (Or.inl ⟨by rfl, ?_⟩) (by assumption) ?_; rotate_left 1; (focus (intro w hSw; (try dsimp only at hSw); (try simp only [opOf_succ, opOf_zero]); go_simp <;> with_reducible rfl)); (try simp only [opOf_succ, opOf_zero, Act.put, List.setIfInBounds_toArray, List.set_cons_zero, List.set_cons_succ]))
    (refine headH_take (i := 1) (v := ?_) (by kernel_rfl) (by omega) (by kernel_rfl) (by kernel_rfl) (fun _ _ _ h => h) (Or.inl ⟨by rfl, ?_⟩) (by assumption) ?_; rotate_left 1; (focus (intro w hSw; (try dsimp only at hSw); (try simp only [opOf_succ, opOf_zero]); go_simp <;> with_reducible rfl)); (try simp only [opOf_succ, opOf_zero, Act.put, List.setIfInBounds_toArray, List.set_cons_zero, List.set_cons_succ]))
    (refine headH_take (i := 2) (v := ?_) (by kernel_rfl) (by omega) (by kernel_rfl) (by kernel_rfl) (fun _ _ _ h => h) (Or.inl ⟨by rfl, ?_⟩) (by assumption) ?_; rotate_left 1; (focus (intro w hSw; (try dsimp only at hSw); (try simp only [opOf_succ, opOf_zero]); go_simp <;> with_reducible rfl)); (try simp only [opOf_succ, opOf_zero, Act.put, List.setIfInBounds_toArray, List.set_cons_zero, List.set_cons_succ]))
    (refine headH_take (i := 3) (v := ?_) (by kernel_rfl) (by omega) (by kernel_rfl) (by kernel_rfl) (fun _ _ _ h => h) (Or.inl ⟨by rfl, ?_⟩) (by assumption) ?_; rotate_left 1; (focus (intro w hSw; (try dsimp only at hSw); (try simp only [opOf_succ, opOf_zero]); go_simp <;> with_reducible rfl)); (try simp only [opOf_succ, opOf_zero, Act.put, List.setIfInBounds_toArray, List.set_cons_zero, List.set_cons_succ]))
    (refine headH_take (i := 5) (v := ?_) (by kernel_rfl) (by omega) (by kernel_rfl) (by kernel_rfl) (fun _ _ _ h => h) (Or.inl ⟨by rfl, ?_⟩) (by assumption) ?_; rotate_left 1; (focus (intro w hSw; (try dsimp only at hSw); (try simp only [opOf_succ, opOf_zero]); go_simp <;> with_reducible rfl)); (try simp only [opOf_succ, opOf_zero, Act.put, List.setIfInBounds_toArray, List.set_cons_zero, List.set_cons_succ]))
    (refine headH_take (i := 6) (v := ?_) (by kernel_rfl) (by omega) (by kernel_rfl) (by kernel_rfl) (fun _ _ _ h => h) (Or.inl ⟨by rfl, ?_⟩) (by assumption) ?_; rotate_left 1; (focus (intro w hSw; (try dsimp only at hSw); (try simp only [opOf_succ, opOf_zero]); go_simp <;> with_reducible rfl)); (try simp only [opOf_succ, opOf_zero, Act.put, List.setIfInBounds_toArray, List.set_cons_zero, List.set_cons_succ]))
    (refine headH_take (i := 7) (v := ?_) (by kernel_rfl) (by omega) (by kernel_rfl) (by kernel_rfl) (fun _ _ _ h => h) (Or.inl ⟨by rfl, ?_⟩) (by assumption) ?_; rotate_left 1; (focus (intro w hSw; (try dsimp only at hSw); (try simp only [opOf_succ, opOf_zero]); go_simp <;> with_reducible rfl)); (try simp only [opOf_succ, opOf_zero, Act.put, List.setIfInBounds_toArray, List.set_cons_zero, List.set_cons_succ]))
    (refine headH_take (i := 8) (v := ?_) (by kernel_rfl) (by omega) (by kernel_rfl) (by kernel_rfl) (fun _ _ _ h => h) (Or.inl ⟨by rfl, ?_⟩) (by assumption) ?_; rotate_left 1; (focus (intro w hSw; (try dsimp only at hSw); (try simp only [opOf_succ, opOf_zero]); go_simp <;> with_reducible rfl)); (try simp only [opOf_succ, opOf_zero, Act.put, List.setIfInBounds_toArray, List.set_cons_zero, List.set_cons_succ]))
    (refine headH_take (i := 9) (v := ?_) (by kernel_rfl) (by omega) (by kernel_rfl) (by kernel_rfl) (fun _ _ _ h => h) (Or.inl ⟨by rfl, ?_⟩) (by assumption) ?_; rotate_left 1; (focus (intro w hSw; (try dsimp only at hSw); (try simp only [opOf_succ, opOf_zero]); go_simp <;> with_reducible rfl)); (try simp only [opOf_succ, opOf_zero, Act.put, List.setIfInBounds_toArray, List.set_cons_zero, List.set_cons_succ]))
    (refine headH_take (i := 10) (v := ?_) (by kernel_rfl) (by omega) (by kernel_rfl) (by kernel_rfl) (fun _ _ _ h => h) (Or.inl ⟨by rfl, ?_⟩) (by assumption) ?_; rotate_left 1; (focus (intro w hSw; (try dsimp only at hSw); (try simp only [opOf_succ, opOf_zero]); go_simp <;> with_reducible rfl)); (try simp only [opOf_succ, opOf_zero, Act.put, List.setIfInBounds_toArray, List.set_cons_zero, List.set_cons_succ]))
    (refine headH_one (i := 4) (by kernel_rfl) (by omega) (by simp only [List.length_cons, List.length_nil]; omega) (fun Kx hKx => ?_); (try simp (config := { proj := false }) only [opOf_succ, opOf_zero]); (go_simp; go_at_call 111; refine (pile_c _ hs0 hs1 _).mono ?_; rintro e w' ⟨g, gcap, rfl, ⟨y, rfl⟩, hr⟩; have hgc : 81 ≤ gcap := hr.lens.1; have hgc1 : (N : Int) + (K : Int) ≤ (gcap : Int) := (by omega); have hgc2 : N + K ≤ gcap := (by omega); obtain ⟨off, hif, hsrc⟩ := pile_src hr hNM hM; (try simp only [Nat.add_sub_cancel_left] at hsrc); have HS := Lib.hid hsrc; clear hsrc hr; go_wp2_with fail); refine hKx.out _ _ (by first | (go_simp; done) | go_keep) (fun hHeld => ?_); clear hKx Kx; (try simp only [Act.put, List.setIfInBounds_toArray, List.set_cons_zero, List.set_cons_succ]))
    (refine headH_take (i := 11) (v := ?_) (by kernel_rfl) (by omega) (by kernel_rfl) (by kernel_rfl) (fun _ _ _ h => h) (Or.inl ⟨by rfl, ?_⟩) (by assumption) ?_; rotate_left 1; (focus (intro w hSw; (try dsimp only at hSw); (try simp only [opOf_succ, opOf_zero]); go_simp <;> with_reducible rfl)); (try simp only [opOf_succ, opOf_zero, Act.put, List.setIfInBounds_toArray, List.set_cons_zero, List.set_cons_succ]))
    (refine headH_one (i := 12) (by kernel_rfl) (by omega) (by simp only [List.length_cons, List.length_nil]; omega) (fun Kx hKx => ?_); (try simp (config := { proj := false }) only [opOf_succ, opOf_zero]); go_simp; refine hKx.out _ _ (by first | (go_simp; done) | go_keep) (fun hHeld => ?_); clear hKx Kx; (try simp only [Act.put, List.setIfInBounds_toArray, List.set_cons_zero, List.set_cons_succ]))
    (refine headH_one (i := 13) (by kernel_rfl) (by omega) (by simp only [List.length_cons, List.length_nil]; omega) (fun Kx hKx => ?_); (try simp (config := { proj := false }) only [opOf_succ, opOf_zero]); (go_simp; go_at_call 113; refine (concat_c cs (((pileR s).take (N + K)).drop N) cs.length K p (some ⟨g, off, none⟩) cap (gcap - N) _ _ (by omega) (by omega) rfl HL2 (by simp [go_sem]) (by first | (go_simp; done) | rfl) (by first | (go_simp; done) | rfl) (Hz.out.ex (by exact by repeat (first | exact Ex.refl _ | refine Ex.ext ?_ _ | refine Ex.alloc ?_ _ | refine Ex.drew ?_))) (HS.out.ex (by exact by repeat (first | exact Ex.refl _ | refine Ex.ext ?_ _ | refine Ex.alloc ?_ _ | refine Ex.drew ?_)))).mono ?_; rintro e w' ⟨r, cp, rfl, ⟨y3, rfl⟩, hr3⟩; have Hr3 := Lib.hid hr3; clear hr3; go_wp2_with fail); refine hKx.out _ _ (by first | (go_simp; done) | go_keep) (fun hHeld => ?_); clear hKx Kx; (try simp only [Act.put, List.setIfInBounds_toArray, List.set_cons_zero, List.set_cons_succ]))
    (refine headH_done (by kernel_rfl) ?_; simp only [List.drop_succ_cons, List.drop_zero])
  all_goals
    go_wp2
    have hrow := Hr3.out
    have hres2 : res.length = cs.length + K := by omega
    refine bodyPost_ret (v := .agg #[.int .i64 s, .int .i64 ((N : Int) + K), .slice r (cs.length + K) cp]) (by simp only [results, Try.results69]; go_simp) rfl ⟨r, cp, by rw [hres2], by repeat (first | exact Ex.refl _ | refine Ex.ext ?_ _ | refine Ex.alloc ?_ _ | refine Ex.drew ?_), ?_⟩
    rw [Hlay.out]
    exact Row.mono (Row.high hrow (by simp [ext_size]) (by simp [go_sem])) (by simp [ext_size]; omega) (by simp [ext_size])
end Go.Proofs.Ytkelmfdbcicojaa
