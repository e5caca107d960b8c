/- The walks of AnchorsOf, BlockedCards, FreeCards, and what they call. -/
import Derived.Test.YtkmnnnhnajnefaaLinesP
import Derived.Test.YtkmnnnhnajnefaaInts
namespace Go.Proofs.Ytkmnnnhnajnefaa
set_option linter.unusedSimpArgs false
set_option linter.unusedVariables false
set_option maxHeartbeats 1000000
set_option maxRecDepth 100000
open Go.RowKit

/-- The numbers below 'n' that pass. -/
def sel (f : Nat → Bool) (n : Nat) : List Int := ((List.range n).filter f).map fun (i : Nat) => (i : Int)
theorem sel_len (f : Nat → Bool) (n : Nat) : (sel f n).length ≤ n := by
  unfold sel
  have := List.length_filter_le f (List.range n)
  simp at this ⊢
  exact this
theorem sel_zero (f : Nat → Bool) : sel f 0 = [] := rfl
theorem sel_yes {f : Nat → Bool} {n : Nat} (h : f n = true) : sel f (n + 1) = sel f n ++ [(n : Int)] := by
  simp [sel, List.range_succ, List.filter_append, h]
theorem sel_no {f : Nat → Bool} {n : Nat} (h : f n = false) : sel f (n + 1) = sel f n := by
  simp [sel, List.range_succ, List.filter_append, h]

theorem third_comm (a b : C4) : third a b = third b a := by
  simp only [third, C4.mk.injEq]
  refine ⟨?_, ?_, ?_, ?_⟩ <;> congr 1 <;> omega

def goodAn (cs : List C4) (a z : C4) : Bool := !ceq z a && hasB cs (third a z)
def anchorB (cs : List C4) (a : C4) : Bool := cs.all (goodAn cs a)
theorem all_take_succ {f : C4 → Bool} {cs : List C4} {k : Nat} (h : k < cs.length) (h1 : (cs.take k).all f = true) (h2 : f cs[k] = true) : (cs.take (k + 1)).all f = true := by
  rw [List.take_succ_eq_append_getElem h, List.all_append, h1]; simp [h2]
theorem all_no {f : C4 → Bool} {cs : List C4} {k : Nat} (h : k < cs.length) (h2 : f cs[k] = false) : cs.all f = false := by
  rw [List.all_eq_false]; exact ⟨cs[k], List.getElem_mem h, by simp [h2]⟩

def anB (cs : List C4) : Bool := handB cs && decide (0 < cs.length)
def anF (cs : List C4) (n : Nat) : Bool := anchorB cs (at_ (n : Int))
def anR (cs : List C4) : List Int := if anB cs then sel (anF cs) 81 else []
theorem anR_len (cs : List C4) : (anR cs).length ≤ 81 := by
  unfold anR; split
  · exact sel_len _ _
  · simp

def outF (cs : List C4) (b : Bool) (n : Nat) : Bool := !hasB cs (at_ (n : Int)) && (decide (0 < through cs (at_ (n : Int))) == b)

end Go.Proofs.Ytkmnnnhnajnefaa
