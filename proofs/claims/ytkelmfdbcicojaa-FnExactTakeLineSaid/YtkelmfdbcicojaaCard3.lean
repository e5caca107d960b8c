/- The walks of the exported functions on single cards. -/
import Derived.Test.YtkelmfdbcicojaaCard2
namespace Go.Proofs.Ytkelmfdbcicojaa
set_option linter.unusedSimpArgs false
set_option linter.unusedVariables false
set_option maxHeartbeats 1000000
open Go.RowKit

def zero4 : C4 := ⟨0, 0, 0, 0⟩
def numberR (c : C4) : Int := if ok c then num c else 0
def atR (n : Int) : C4 := if inR n 0 80 then at_ n else zero4
def thirdB (a b : C4) : Bool := ok a && ok b && !ceq a b
def thirdR (a b : C4) : C4 := if thirdB a b then third a b else zero4
def lineOk (a b c : C4) : Bool := ok a && ok b && ok c
def lineR (a b c : C4) : Bool := lineOk a b c && lineB a b c
def kindB (a b c : C4) : Bool := ok a && ok b && ok c && lineB a b c
def kindR (a b c : C4) : Int := if kindB a b c then differ a b else 0
def differB (a b : C4) : Bool := ok a && ok b
def differR (a b : C4) : Int := if differB a b then differ a b else 0
def nextR (s : Int) : Int := if isSeed s then behind s else 0

theorem sl3 (a b c : C4) (w : World) : Sl (w.alloc (.cells #[.int .i64 a.a, .int .i64 a.b, .int .i64 a.c, .int .i64 a.d, .int .i64 b.a, .int .i64 b.b, .int .i64 b.c, .int .i64 b.d, .int .i64 c.a, .int .i64 c.b, .int .i64 c.c, .int .i64 c.d] 52)) (some ⟨w.heap.size, 0, none⟩) [a, b, c] := by
  intro i hi
  refine ⟨w.heap.size, 0, rfl, by simp, ?_⟩
  match i, hi with
  | 0, _ => go_simp
  | 1, _ => go_simp
  | 2, _ => go_simp
theorem sl2 (a b : C4) (w : World) : Sl (w.alloc (.cells #[.int .i64 a.a, .int .i64 a.b, .int .i64 a.c, .int .i64 a.d, .int .i64 b.a, .int .i64 b.b, .int .i64 b.c, .int .i64 b.d] 52)) (some ⟨w.heap.size, 0, none⟩) [a, b] := by
  intro i hi
  refine ⟨w.heap.size, 0, rfl, by simp, ?_⟩
  match i, hi with
  | 0, _ => go_simp
  | 1, _ => go_simp

theorem areCards3 (a b c : C4) (n : Nat) (w : World) (hn : n = w.heap.size) : Calls Try.prog 92 #[.slice (some ⟨n, 0, none⟩) 3 3] (w.alloc (.cells #[.int .i64 a.a, .int .i64 a.b, .int .i64 a.c, .int .i64 a.d, .int .i64 b.a, .int .i64 b.b, .int .i64 b.c, .int .i64 b.d, .int .i64 c.a, .int .i64 c.b, .int .i64 c.c, .int .i64 c.d] 52)) fun e w' => e = .returned (.bool (lineOk a b c)) ∧ Ex (w.alloc (.cells #[.int .i64 a.a, .int .i64 a.b, .int .i64 a.c, .int .i64 a.d, .int .i64 b.a, .int .i64 b.b, .int .i64 b.c, .int .i64 b.d, .int .i64 c.a, .int .i64 c.b, .int .i64 c.c, .int .i64 c.d] 52)) w' := by
  subst hn
  exact (areCards_c [a, b, c] _ 3 _ (by simp) (sl3 a b c w)).mono fun e w' ⟨h, k⟩ => ⟨by rw [h]; simp [lineOk, Bool.and_assoc], k⟩
theorem areCards2 (a b : C4) (n : Nat) (w : World) (hn : n = w.heap.size) : Calls Try.prog 92 #[.slice (some ⟨n, 0, none⟩) 2 2] (w.alloc (.cells #[.int .i64 a.a, .int .i64 a.b, .int .i64 a.c, .int .i64 a.d, .int .i64 b.a, .int .i64 b.b, .int .i64 b.c, .int .i64 b.d] 52)) fun e w' => e = .returned (.bool (differB a b)) ∧ Ex (w.alloc (.cells #[.int .i64 a.a, .int .i64 a.b, .int .i64 a.c, .int .i64 a.d, .int .i64 b.a, .int .i64 b.b, .int .i64 b.c, .int .i64 b.d] 52)) w' := by
  subst hn
  exact (areCards_c [a, b] _ 2 _ (by simp) (sl2 a b w)).mono fun e w' ⟨h, k⟩ => ⟨by rw [h]; simp [differB], k⟩

end Go.Proofs.Ytkelmfdbcicojaa
