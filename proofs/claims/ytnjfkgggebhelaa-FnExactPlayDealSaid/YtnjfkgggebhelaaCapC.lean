/- The walks of LinesIn, IsCap, BlockedCards, FreeCards, IsFullCap. -/
import Derived.Test.YtnjfkgggebhelaaLines
import Derived.Test.YtnjfkgggebhelaaAnch
namespace Go.Proofs.Ytnjfkgggebhelaa
set_option linter.unusedSimpArgs false
set_option linter.unusedVariables false
set_option maxHeartbeats 1000000
set_option maxRecDepth 100000
open Go.RowKit

theorem int_eq0 (n : Nat) : ((n : Int) == 0) = decide (n = 0) := by rw [Bool.eq_iff_iff]; simp
def liR (cs : List C4) : List (Nat × Nat × Nat) := if handB cs then linesR cs else []
theorem liR_len (cs : List C4) : (liR cs).length ≤ 1000000 := by
  unfold liR; split
  · rename_i h; exact lines_small (by have := (handB_ok h).2; omega)
  · simp

theorem l3Cap_c (cs : List C4) (p : Option Addr) (cap : Nat) (w : World) (hn : cs.length ≤ 1000) (hok : ∀ z ∈ cs, Ok z) (hz : Sl w p cs) :
    Calls Try.prog 52 #[.slice p cs.length cap] w fun e w' => e = .returned (.bool (capB cs)) ∧ Ex w w' := by
  have H := Lib.hid (l2Lines_c cs p cap w hn hok hz)
  have hb := lines_small hn
  clear hz
  have hcap : capB cs = decide ((linesR cs).length = 0) := rfl
  rw [hcap]
  clear hcap
  obtain ⟨n, hN⟩ : ∃ n, n = (linesR cs).length := ⟨_, rfl⟩
  rw [← hN] at hb ⊢
  have HN := Lib.hid hN
  clear hN
  go_enter Try.func52, Try.ntmps52
  go_wp2_with (go_at_call 90; refine H.out.mono ?_; rw [← HN.out]; rintro e w' ⟨g, cap', rfl, ⟨x, rfl⟩, _⟩)
  go_ret
  exact ⟨ret_bool (by rw [Bool.eq_iff_iff]; simp; try omega), by repeat (first | exact Ex.refl _ | refine Ex.ext ?_ _ | refine Ex.alloc ?_ _ | refine Ex.drew ?_)⟩
theorem isCap_c (cs : List C4) (p : Option Addr) (cap : Nat) (w : World) (hn : cs.length ≤ 1000) (hnd : cs.Nodup) (hok : ∀ z ∈ cs, Ok z) (hz : Sl w p cs) :
    Calls Try.prog 54 #[.slice p cs.length cap] w fun e w' => e = .returned (.bool (capB cs)) ∧ Ex w w' := by
  have H := Lib.hid (linesIn_c cs p cap w hn hnd hok hz)
  have hb := lines_small hn
  clear hz
  have hcap : capB cs = decide ((linesR cs).length = 0) := rfl
  rw [hcap]
  clear hcap
  obtain ⟨n, hN⟩ : ∃ n, n = (linesR cs).length := ⟨_, rfl⟩
  rw [← hN] at hb ⊢
  have HN := Lib.hid hN
  clear hN
  go_enter Try.func54, Try.ntmps54
  go_wp2_with (go_at_call 91; refine H.out.mono ?_; rw [← HN.out]; rintro e w' ⟨g, cap', rfl, ⟨x, rfl⟩, _⟩)
  go_ret
  exact ⟨ret_bool (by rw [Bool.eq_iff_iff]; simp; try omega), by repeat (first | exact Ex.refl _ | refine Ex.ext ?_ _ | refine Ex.alloc ?_ _ | refine Ex.drew ?_)⟩

def icB (cs : List C4) : Bool := handB cs && capB cs

def bcR (cs : List C4) : List Int := if handB cs then sel (outF cs true) 81 else []
theorem bcR_len (cs : List C4) : (bcR cs).length ≤ 81 := by
  unfold bcR; split
  · exact sel_len _ _
  · simp

def fcR (cs : List C4) : List Int := if handB cs then sel (outF cs false) 81 else []
theorem fcR_len (cs : List C4) : (fcR cs).length ≤ 81 := by
  unfold fcR; split
  · exact sel_len _ _
  · simp

def fullB (cs : List C4) : Bool := handB cs && (capB cs && decide ((sel (outF cs false) 81).length = 0))

end Go.Proofs.Ytnjfkgggebhelaa
