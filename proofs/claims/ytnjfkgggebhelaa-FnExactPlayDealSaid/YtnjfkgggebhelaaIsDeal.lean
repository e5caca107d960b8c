/- The walks of l4Deal and IsDeal. -/
import Derived.Test.YtnjfkgggebhelaaDealA
namespace Go.Proofs.Ytnjfkgggebhelaa
set_option linter.unusedSimpArgs false
set_option linter.unusedVariables false
set_option maxHeartbeats 1000000
set_option maxRecDepth 100000
open Go.RowKit


theorem l2Has_r {w0 w : World} {cs : List C4} {c : C4} {p : Option Addr} {n cap : Nat} {r : Bool} (hl : cs.length = n) (hr : hasB cs c = r) (hz : Sl w0 p cs) (hn : n ≤ 1000000000000) (hE : Ex w0 w) :
    Calls Try.prog 46 #[.slice p n cap, .agg #[.int .i64 c.a, .int .i64 c.b, .int .i64 c.c, .int .i64 c.d]] w fun e w' => e = .returned (.bool r) ∧ Ex w w' := by
  subst hl; subst hr; exact l2Has_c cs c p cap w hn (hz.ex hE)
theorem has_r {w0 w : World} {cs : List C4} {c : C4} {p : Option Addr} {n cap : Nat} {r : Bool} (hl : cs.length = n) (hr : hasB cs c = r) (hz : Sl w0 p cs) (hn : n ≤ 1000000000000) (hE : Ex w0 w) :
    Calls Try.prog 50 #[.slice p n cap, .agg #[.int .i64 c.a, .int .i64 c.b, .int .i64 c.c, .int .i64 c.d]] w fun e w' => e = .returned (.bool r) ∧ Ex w w' := by
  subst hl; subst hr; exact has_c cs c p cap w hn (hz.ex hE)

theorem takeP (s : Int) {N : Nat} (h : N ≤ 81) : ((pileR s).take N).length = N := by rw [List.length_take, pileR_length]; omega
theorem dealB_split {s n : Int} {cs : List C4} (h1 : isSeed s = true) (h2 : inR n 0 81 = true) : dealB s n cs = laidB ((pileR s).take n.toNat) cs := by simp [dealB, h1, h2]

end Go.Proofs.Ytnjfkgggebhelaa
