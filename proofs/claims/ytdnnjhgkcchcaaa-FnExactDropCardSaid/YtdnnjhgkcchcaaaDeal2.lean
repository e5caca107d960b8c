/- The walks of NewDeal of the program, of the laws' helpers on deals, and of the law on NewDeal. -/
import Derived.Test.YtdnnjhgkcchcaaaDeal
namespace Go.Proofs.Ytdnnjhgkcchcaaa
set_option linter.unusedSimpArgs false
set_option linter.unusedVariables false
set_option maxHeartbeats 1000000
set_option maxRecDepth 100000
open Go.RowKit


theorem eqDeal_c (s n : Int) (cs ds : List C4) (p q : Option Addr) (cap cap2 : Nat) (w : World) (hn : cs.length ≤ 1000000000000) (hm : ds.length ≤ 1000000000000) (hz : Sl w p cs) (hy : Sl w q ds) :
    Calls Try.prog 30 #[.agg #[.int .i64 s, .int .i64 n, .slice p cs.length cap], .agg #[.int .i64 s, .int .i64 n, .slice q ds.length cap2]] w fun e w' => e = .returned (.bool (decide (cs = ds))) ∧ Ex w w' := by
  have Hz := Lib.hid hz
  have Hy := Lib.hid hy
  clear hz hy
  obtain ⟨r, hr⟩ : ∃ r, r = decide (cs = ds) := ⟨_, rfl⟩
  rw [← hr]
  have HR := Lib.hid hr
  clear hr
  cases r
  all_goals
    go_enter Try.func30, Try.ntmps30
    go_wp2_with (go_at_call 22; refine (eqA4S_c _ _ _ _ _ _ _ hn hm (Hz.out.ex (by repeat (first | exact Ex.refl _ | refine Ex.ext ?_ _ | refine Ex.alloc ?_ _ | refine Ex.drew ?_))) (Hy.out.ex (by repeat (first | exact Ex.refl _ | refine Ex.ext ?_ _ | refine Ex.alloc ?_ _ | refine Ex.drew ?_)))).mono ?_; rintro e w' ⟨rfl, x, rfl⟩; rw [← HR.out])
    go_ret
    exact ⟨rfl, by repeat (first | exact Ex.refl _ | refine Ex.ext ?_ _ | refine Ex.alloc ?_ _ | refine Ex.drew ?_)⟩

theorem Apart.pre {lo hi : Nat} {w w1 w' : World} (hx : Ex w w1) (h : Apart lo hi w1 w') : Apart lo hi w w' :=
  ⟨h.tape.trans hx.below.tape, h.os.trans hx.below.os, h.output.trans hx.below.output, Nat.le_trans hx.below.size h.size,
    fun k hk ho => (h.same k (Nat.lt_of_lt_of_le hk hx.below.size) ho).trans (hx.below.block k hk)⟩

theorem markDeal_c (s n : Int) (cs : List C4) (p : Option Addr) (cap : Nat) (m : Int) (lo hi : Nat) (w : World) (hn : cs.length ≤ 2000000) (h0 : 0 ≤ m) (h1 : m ≤ 1000000000) (h : Row lo hi w p cap cs) :
    Calls Try.prog 57 #[.agg #[.int .i64 s, .int .i64 n, .slice p cs.length cap], .int .i64 m] w fun e w' => e = .returned (.int .i64 (m + 4 * cs.length)) ∧ Row lo hi w' p cap (marks m cs.length) ∧ Apart lo hi w w' := by
  have H := Lib.hid h
  clear h
  go_enter Try.func57, Try.ntmps57
  go_wp2_with (go_at_call 23; refine (markA4S_c _ _ _ _ _ _ _ hn h0 h1 (H.out.ex (by repeat (first | exact Ex.refl _ | refine Ex.ext ?_ _ | refine Ex.alloc ?_ _ | refine Ex.drew ?_)))).mono ?_; rintro e w' ⟨rfl, hr, ha⟩)
  go_ret
  exact ⟨rfl, hr, Apart.pre (by exact by repeat (first | exact Ex.refl _ | refine Ex.ext ?_ _ | refine Ex.alloc ?_ _ | refine Ex.drew ?_)) ha⟩

end Go.Proofs.Ytdnnjhgkcchcaaa
