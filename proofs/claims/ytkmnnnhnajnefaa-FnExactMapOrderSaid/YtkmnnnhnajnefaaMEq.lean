/- Two maps compared. -/
import Derived.Test.YtkmnnnhnajnefaaM16
namespace Go.Proofs.Ytkmnnnhnajnefaa
set_option linter.unusedSimpArgs false
set_option linter.unusedVariables false
set_option maxHeartbeats 1000000
set_option maxRecDepth 100000
open Go.RowKit

def eqv (x0 x1 x2 y0 y1 y2 : Int) : Bool := x0 == y0 && (x1 == y1 && x2 == y2)
theorem eqv_run (d : Nat) (x0 x1 x2 y0 y1 y2 : Int) (w : World) :
    (Op.equalIn (d+2) 37 (.agg #[.int .i64 x0, .int .i64 x1, .int .i64 x2]) (.agg #[.int .i64 y0, .int .i64 y1, .int .i64 y2])).run Try.prog w = .ok (eqv x0 x1 x2 y0 y1 y2) w := by
  unfold eqv
  rw [Op.equalIn]
  simp only [Sem.run_bind, run_underlying Try.underlying37, Result.andThen_ok]
  by_cases h0 : x0 = y0 <;> by_cases h1 : x1 = y1 <;> by_cases h2 : x2 = y2 <;> simp [go_sem, List.range', *]
def vcellsO (g : Nat → Int) : Array Value := #[.int .i64 (g 4), .int .i64 (g 5), .int .i64 (g 6), .int .i64 (g 7), .int .i64 (g 8), .int .i64 (g 9), .int .i64 (g 10), .int .i64 (g 11), .int .i64 (g 12), .int .i64 (g 13), .int .i64 (g 14), .int .i64 (g 15)]
theorem eqV_run (d : Nat) (g h : Nat → Int) (w : World) :
    (Op.equalIn (d+3) 38 (.agg (vcellsO g)) (.agg (vcellsO h))).run Try.prog w = .ok (eqv (g 4) (g 5) (g 6) (h 4) (h 5) (h 6) && (eqv (g 7) (g 8) (g 9) (h 7) (h 8) (h 9) && (eqv (g 10) (g 11) (g 12) (h 10) (h 11) (h 12) && eqv (g 13) (g 14) (g 15) (h 13) (h 14) (h 15)))) w := by
  have e0 := eqv_run d (g 4) (g 5) (g 6) (h 4) (h 5) (h 6) w
  have e1 := eqv_run d (g 7) (g 8) (g 9) (h 7) (h 8) (h 9) w
  have e2 := eqv_run d (g 10) (g 11) (g 12) (h 10) (h 11) (h 12) w
  have e3 := eqv_run d (g 13) (g 14) (g 15) (h 13) (h 14) (h 15) w
  rw [Op.equalIn]
  simp only [Sem.run_bind, run_underlying Try.underlying38, Result.andThen_ok]
  generalize eqv (g 4) (g 5) (g 6) (h 4) (h 5) (h 6) = r0 at *
  generalize eqv (g 7) (g 8) (g 9) (h 7) (h 8) (h 9) = r1 at *
  generalize eqv (g 10) (g 11) (g 12) (h 10) (h 11) (h 12) = r2 at *
  generalize eqv (g 13) (g 14) (g 15) (h 13) (h 14) (h 15) = r3 at *
  cases r0 <;> cases r1 <;> cases r2 <;> cases r3 <;> simp [go_sem, List.range', vcellsO, *]
def eq4 (g h : Nat → Int) : Bool := g 0 == h 0 && (g 1 == h 1 && (g 2 == h 2 && g 3 == h 3))
def eq12 (g h : Nat → Int) : Bool := eqv (g 4) (g 5) (g 6) (h 4) (h 5) (h 6) && (eqv (g 7) (g 8) (g 9) (h 7) (h 8) (h 9) && (eqv (g 10) (g 11) (g 12) (h 10) (h 11) (h 12) && eqv (g 13) (g 14) (g 15) (h 13) (h 14) (h 15)))
@[go_sem] theorem eq4_go (g h : Nat → Int) (w : World) : (Op.equalIn 9999 36 (.agg ((mcells g).extract 0 4)) (.agg ((mcells h).extract 0 4))).run Try.prog w = .ok (eq4 g h) w := eq_run 9997 (g 0) (g 1) (g 2) (g 3) (h 0) (h 1) (h 2) (h 3) w
@[go_sem] theorem eq12_go (g h : Nat → Int) (w : World) : (Op.equalIn 9999 38 (.agg ((mcells g).extract 4 16)) (.agg ((mcells h).extract 4 16))).run Try.prog w = .ok (eq12 g h) w := eqV_run 9996 g h w
theorem eq16_iff (g h : Nat → Int) : (eq4 g h = true ∧ eq12 g h = true) ↔ ∀ j, j < 16 → g j = h j := by
  simp only [eq4, eq12, eqv, Bool.and_eq_true, beq_iff_eq]
  constructor
  · rintro ⟨⟨h0, h1, h2, h3⟩, ⟨h4, h5, h6⟩, ⟨h7, h8, h9⟩, ⟨h10, h11, h12⟩, h13, h14, h15⟩ j hj
    rcases nat16 hj with rfl | rfl | rfl | rfl | rfl | rfl | rfl | rfl | rfl | rfl | rfl | rfl | rfl | rfl | rfl | rfl <;> assumption
  · intro k
    exact ⟨⟨k 0 (by omega), k 1 (by omega), k 2 (by omega), k 3 (by omega)⟩, ⟨k 4 (by omega), k 5 (by omega), k 6 (by omega)⟩, ⟨k 7 (by omega), k 8 (by omega), k 9 (by omega)⟩, ⟨k 10 (by omega), k 11 (by omega), k 12 (by omega)⟩, k 13 (by omega), k 14 (by omega), k 15 (by omega)⟩
end Go.Proofs.Ytkmnnnhnajnefaa
