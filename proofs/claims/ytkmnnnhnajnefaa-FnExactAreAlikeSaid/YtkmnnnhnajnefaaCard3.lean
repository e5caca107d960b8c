/- The walks of the exported functions on single cards. -/
import Derived.Test.YtkmnnnhnajnefaaCard2
namespace Go.Proofs.Ytkmnnnhnajnefaa
set_option linter.unusedSimpArgs false
set_option linter.unusedVariables false
set_option maxHeartbeats 1000000
open Go.RowKit

def zero4 : C4 := ⟨0, 0, 0, 0⟩
def numberR (c : C4) : Int := if ok c then num c else 0
def atR (n : Int) : C4 := if inR n 0 80 then at_ n else zero4
def thirdB (a b : C4) : Bool := ok a && ok b && !ceq a b
def thirdR (a b : C4) : C4 := if thirdB a b then third a b else zero4
def lineOk (a b c : C4) : Bool := ok a && ok b && ok c
def lineR (a b c : C4) : Bool := lineOk a b c && lineB a b c
def kindB (a b c : C4) : Bool := ok a && ok b && ok c && lineB a b c
def kindR (a b c : C4) : Int := if kindB a b c then differ a b else 0
def differB (a b : C4) : Bool := ok a && ok b
def differR (a b : C4) : Int := if differB a b then differ a b else 0
def nextR (s : Int) : Int := if isSeed s then behind s else 0

theorem sl3 (a b c : C4) (w : World) : Sl (w.alloc (.cells #[.int .i64 a.a, .int .i64 a.b, .int .i64 a.c, .int .i64 a.d, .int .i64 b.a, .int .i64 b.b, .int .i64 b.c, .int .i64 b.d, .int .i64 c.a, .int .i64 c.b, .int .i64 c.c, .int .i64 c.d] 36)) (some ⟨w.heap.size, 0, none⟩) [a, b, c] := by
  intro i hi
  refine ⟨w.heap.size, 0, rfl, by simp, ?_⟩
  match i, hi with
  | 0, _ => go_simp
  | 1, _ => go_simp
  | 2, _ => go_simp
theorem sl2 (a b : C4) (w : World) : Sl (w.alloc (.cells #[.int .i64 a.a, .int .i64 a.b, .int .i64 a.c, .int .i64 a.d, .int .i64 b.a, .int .i64 b.b, .int .i64 b.c, .int .i64 b.d] 36)) (some ⟨w.heap.size, 0, none⟩) [a, b] := by
  intro i hi
  refine ⟨w.heap.size, 0, rfl, by simp, ?_⟩
  match i, hi with
  | 0, _ => go_simp
  | 1, _ => go_simp

end Go.Proofs.Ytkmnnnhnajnefaa
