/- The walks of NewDeal of the program, of the laws' helpers on deals, and of the law on NewDeal. -/
import Derived.Test.YtnjfkgggebhelaaDeal
namespace Go.Proofs.Ytnjfkgggebhelaa
set_option linter.unusedSimpArgs false
set_option linter.unusedVariables false
set_option maxHeartbeats 1000000
set_option maxRecDepth 100000
open Go.RowKit


theorem newDeal_c (s : Int) (h0 : 0 ≤ s) (h1 : s ≤ 65535) (w : World) : Calls Try.prog 64 #[.int .i64 s] w fun e w' => ∃ p cap, e = .returned (.agg #[.int .i64 s, .int .i64 12, .slice p 12 cap]) ∧ Ex w w' ∧ Row w.heap.size w'.heap.size w' p cap ((pileR s).take 12) := by
  have e12 := take12 s
  go_enter Try.func64, Try.ntmps64
  go_wp2_with (first | (go_at_call 100; refine (pile_c _ h0 h1 _).mono ?_; rintro e w1 ⟨g, cap, rfl, ⟨y, rfl⟩, hr⟩; have hcap : 81 ≤ cap := hr.lens.1; have hcap1 : (12 : Int) ≤ (cap : Int) := (by omega); have hcap2 : 12 ≤ cap := (by omega); have Hr := Lib.hid hr; clear hr) |
    (go_at_call 51; have ho := clone_c ((pileR s).take 12) g 0 cap _ (by rw [e12]; omega) ((Hr.out.row (pileR_length s).symm).sl.take 12); rw [e12] at ho; refine ho.mono ?_; rintro e w2 ⟨p, cap', rfl, ⟨y2, rfl⟩, hr2⟩; simp only [ext_ext, Ext.app_assoc] at hr2; have Hr2 := Lib.hid hr2; clear hr2 ho))
  refine bodyPost_ret (v := .agg #[.int .i64 s, .int .i64 12, .slice p 12 cap']) (by simp only [results, Try.results64]; go_simp) rfl ⟨p, cap', rfl, by repeat (first | exact Ex.refl _ | refine Ex.ext ?_ _ | refine Ex.alloc ?_ _ | refine Ex.drew ?_), ?_⟩
  refine Row.mono (Hr2.out.keeps (ext_alloc_keeps w _ _ _) ?_) ?_ ?_
  · simp [ext_size]; omega
  · simp [ext_size]; omega
  · simp [ext_size]

theorem Apart.pre {lo hi : Nat} {w w1 w' : World} (hx : Ex w w1) (h : Apart lo hi w1 w') : Apart lo hi w w' :=
  ⟨h.tape.trans hx.below.tape, h.os.trans hx.below.os, h.output.trans hx.below.output, Nat.le_trans hx.below.size h.size,
    fun k hk ho => (h.same k (Nat.lt_of_lt_of_le hk hx.below.size) ho).trans (hx.below.block k hk)⟩

end Go.Proofs.Ytnjfkgggebhelaa
