/- The walks of NewDeal of the program, of the laws' helpers on deals, and of the law on NewDeal. -/
import Derived.Test.YtkelmfdbcicojaaDeal
namespace Go.Proofs.Ytkelmfdbcicojaa
set_option linter.unusedSimpArgs false
set_option linter.unusedVariables false
set_option maxHeartbeats 1000000
set_option maxRecDepth 100000
open Go.RowKit


theorem newDeal_c (s : Int) (h0 : 0 ≤ s) (h1 : s ≤ 65535) (w : World) : Calls Try.prog 81 #[.int .i64 s] w fun e w' => ∃ p cap, e = .returned (.agg #[.int .i64 s, .int .i64 12, .slice p 12 cap]) ∧ Ex w w' ∧ Row w.heap.size w'.heap.size w' p cap ((pileR s).take 12) := by
  have e12 := take12 s
  go_enter Try.func81, Try.ntmps81
  go_wp2_with (first | (go_at_call 111; refine (pile_c _ h0 h1 _).mono ?_; rintro e w1 ⟨g, cap, rfl, ⟨y, rfl⟩, hr⟩; have hcap : 81 ≤ cap := hr.lens.1; have hcap1 : (12 : Int) ≤ (cap : Int) := (by omega); have hcap2 : 12 ≤ cap := (by omega); have Hr := Lib.hid hr; clear hr) |
    (go_at_call 119; have ho := clone_c ((pileR s).take 12) g 0 cap _ (by rw [e12]; omega) ((Hr.out.row (pileR_length s).symm).sl.take 12); rw [e12] at ho; refine ho.mono ?_; rintro e w2 ⟨p, cap', rfl, ⟨y2, rfl⟩, hr2⟩; simp only [ext_ext, Ext.app_assoc] at hr2; have Hr2 := Lib.hid hr2; clear hr2 ho))
  refine bodyPost_ret (v := .agg #[.int .i64 s, .int .i64 12, .slice p 12 cap']) (by simp only [results, Try.results81]; go_simp) rfl ⟨p, cap', rfl, by repeat (first | exact Ex.refl _ | refine Ex.ext ?_ _ | refine Ex.alloc ?_ _ | refine Ex.drew ?_), ?_⟩
  refine Row.mono (Hr2.out.keeps (ext_alloc_keeps w _ _ _) ?_) ?_ ?_
  · simp [ext_size]; omega
  · simp [ext_size]; omega
  · simp [ext_size]

theorem eqDeal_c (s n : Int) (cs ds : List C4) (p q : Option Addr) (cap cap2 : Nat) (w : World) (hn : cs.length ≤ 1000000000000) (hm : ds.length ≤ 1000000000000) (hz : Sl w p cs) (hy : Sl w q ds) :
    Calls Try.prog 21 #[.agg #[.int .i64 s, .int .i64 n, .slice p cs.length cap], .agg #[.int .i64 s, .int .i64 n, .slice q ds.length cap2]] w fun e w' => e = .returned (.bool (decide (cs = ds))) ∧ Ex w w' := by
  have Hz := Lib.hid hz
  have Hy := Lib.hid hy
  clear hz hy
  obtain ⟨r, hr⟩ : ∃ r, r = decide (cs = ds) := ⟨_, rfl⟩
  rw [← hr]
  have HR := Lib.hid hr
  clear hr
  cases r
  all_goals
    go_enter Try.func21, Try.ntmps21
    go_wp2_with (go_at_call 38; refine (eqA4S_c _ _ _ _ _ _ _ hn hm (Hz.out.ex (by repeat (first | exact Ex.refl _ | refine Ex.ext ?_ _ | refine Ex.alloc ?_ _ | refine Ex.drew ?_))) (Hy.out.ex (by repeat (first | exact Ex.refl _ | refine Ex.ext ?_ _ | refine Ex.alloc ?_ _ | refine Ex.drew ?_)))).mono ?_; rintro e w' ⟨rfl, x, rfl⟩; rw [← HR.out])
    go_ret
    exact ⟨rfl, by repeat (first | exact Ex.refl _ | refine Ex.ext ?_ _ | refine Ex.alloc ?_ _ | refine Ex.drew ?_)⟩

theorem Apart.pre {lo hi : Nat} {w w1 w' : World} (hx : Ex w w1) (h : Apart lo hi w1 w') : Apart lo hi w w' :=
  ⟨h.tape.trans hx.below.tape, h.os.trans hx.below.os, h.output.trans hx.below.output, Nat.le_trans hx.below.size h.size,
    fun k hk ho => (h.same k (Nat.lt_of_lt_of_le hk hx.below.size) ho).trans (hx.below.block k hk)⟩

theorem markDeal_c (s n : Int) (cs : List C4) (p : Option Addr) (cap : Nat) (m : Int) (lo hi : Nat) (w : World) (hn : cs.length ≤ 2000000) (h0 : 0 ≤ m) (h1 : m ≤ 1000000000) (h : Row lo hi w p cap cs) :
    Calls Try.prog 22 #[.agg #[.int .i64 s, .int .i64 n, .slice p cs.length cap], .int .i64 m] w fun e w' => e = .returned (.int .i64 (m + 4 * cs.length)) ∧ Row lo hi w' p cap (marks m cs.length) ∧ Apart lo hi w w' := by
  have H := Lib.hid h
  clear h
  go_enter Try.func22, Try.ntmps22
  go_wp2_with (go_at_call 41; refine (markA4S_c _ _ _ _ _ _ _ hn h0 h1 (H.out.ex (by repeat (first | exact Ex.refl _ | refine Ex.ext ?_ _ | refine Ex.alloc ?_ _ | refine Ex.drew ?_)))).mono ?_; rintro e w' ⟨rfl, hr, ha⟩)
  go_ret
  exact ⟨rfl, hr, Apart.pre (by exact by repeat (first | exact Ex.refl _ | refine Ex.ext ?_ _ | refine Ex.alloc ?_ _ | refine Ex.drew ?_)) ha⟩

theorem heldDeal_c (s n : Int) (len : Nat) (p : Option Addr) (cap : Nat) (m : Int) (w : World) (hn : len ≤ 2000000) (h0 : 0 ≤ m) (h1 : m ≤ 1000000000) (hz : Sl w p (marks m len)) :
    Calls Try.prog 23 #[.agg #[.int .i64 s, .int .i64 n, .slice p len cap], .int .i64 m] w fun e w' => e = .returned (.int .i64 (m + 4 * len)) ∧ Ex w w' := by
  have Hz := Lib.hid hz
  clear hz
  go_enter Try.func23, Try.ntmps23
  go_wp2_with (go_at_call 70; refine (heldA4S_c _ _ _ _ _ hn h0 h1 (Hz.out.ex (by repeat (first | exact Ex.refl _ | refine Ex.ext ?_ _ | refine Ex.alloc ?_ _ | refine Ex.drew ?_)))).mono ?_; rintro e w' ⟨rfl, x, rfl⟩)
  go_ret
  exact ⟨rfl, by repeat (first | exact Ex.refl _ | refine Ex.ext ?_ _ | refine Ex.alloc ?_ _ | refine Ex.drew ?_)⟩
end Go.Proofs.Ytkelmfdbcicojaa
