/- The walks of IsDeal, IsStuck, IsOverDeal, DealLines. -/
import Derived.Test.YtkelmfdbcicojaaIsDeal
import Derived.Test.YtkelmfdbcicojaaCapC
namespace Go.Proofs.Ytkelmfdbcicojaa
set_option linter.unusedSimpArgs false
set_option linter.unusedVariables false
set_option maxHeartbeats 1000000
set_option maxRecDepth 100000
open Go.RowKit


theorem isStuck_c (s n : Int) (cs : List C4) (p : Option Addr) (cap : Nat) (w : World) (hcap : cs.length ≤ cap) (hc2 : cap ≤ 1000000000000) (hz : Sl w p cs) (hn : cs.length ≤ 1000) (hnd : cs.Nodup) (hok : ∀ z ∈ cs, Ok z) :
    Calls Try.prog 67 #[.agg #[.int .i64 s, .int .i64 n, .slice p cs.length cap]] w fun e w' => e = .returned (.bool (capB cs)) ∧ Ex w w' := by
  have Hz := Lib.hid hz
  have Hok := Lib.hid hok
  have hb := lines_small hn
  have hcapd : capB cs = decide ((linesR cs).length = 0) := rfl
  rw [hcapd]
  clear hcapd hz hok
  obtain ⟨m, hN⟩ : ∃ m, m = (linesR cs).length := ⟨_, rfl⟩
  rw [← hN] at hb ⊢
  have HN := Lib.hid hN
  clear hN
  go_enter Try.func67, Try.ntmps67
  go_wp2_with (go_at_call 74; refine (linesIn_c _ _ _ _ hn hnd Hok.out (Hz.out.ex (by repeat (first | exact Ex.refl _ | refine Ex.ext ?_ _ | refine Ex.alloc ?_ _ | refine Ex.drew ?_)))).mono ?_; rw [← HN.out]; rintro e w' ⟨g, cap', rfl, ⟨x, rfl⟩, _⟩)
  go_ret
  exact ⟨ret_bool (by rw [Bool.eq_iff_iff]; simp; try omega), by repeat (first | exact Ex.refl _ | refine Ex.ext ?_ _ | refine Ex.alloc ?_ _ | refine Ex.drew ?_)⟩

def overB (n : Int) (cs : List C4) : Bool := decide (n = 81) && capB cs

theorem isOver_c (s n : Int) (cs : List C4) (p : Option Addr) (cap : Nat) (w : World) (hcap : cs.length ≤ cap) (hc2 : cap ≤ 1000000000000) (hz : Sl w p cs) (hn : cs.length ≤ 1000) (hnd : cs.Nodup) (hok : ∀ z ∈ cs, Ok z) (h0 : 0 ≤ n) (h1 : n ≤ 81) :
    Calls Try.prog 68 #[.agg #[.int .i64 s, .int .i64 n, .slice p cs.length cap]] w fun e w' => e = .returned (.bool (overB n cs)) ∧ Ex w w' := by
  have H := Lib.hid (fun w hz => isStuck_c s n cs p cap w hcap hc2 hz hn hnd hok)
  have Hz := Lib.hid hz
  clear hz hok
  cases h : capB cs
  · have hR : overB n cs = false := by simp [overB, h]
    rw [hR]
    clear hR
    go_enter Try.func68, Try.ntmps68
    go_wp2_with (go_at_call 67; refine (H.out _ (Hz.out.ex (by repeat (first | exact Ex.refl _ | refine Ex.ext ?_ _ | refine Ex.alloc ?_ _ | refine Ex.drew ?_)))).mono ?_; rw [h]; rintro e w' ⟨rfl, x, rfl⟩)
    go_ret
    exact ⟨rfl, by repeat (first | exact Ex.refl _ | refine Ex.ext ?_ _ | refine Ex.alloc ?_ _ | refine Ex.drew ?_)⟩
  · have hR : overB n cs = decide (n = 81) := by simp [overB, h]
    rw [hR]
    clear hR
    go_enter Try.func68, Try.ntmps68
    go_wp2_with (go_at_call 67; refine (H.out _ (Hz.out.ex (by repeat (first | exact Ex.refl _ | refine Ex.ext ?_ _ | refine Ex.alloc ?_ _ | refine Ex.drew ?_)))).mono ?_; rw [h]; rintro e w' ⟨rfl, x, rfl⟩)
    go_ret
    exact ⟨ret_bool (by rw [Bool.eq_iff_iff]; simp), by repeat (first | exact Ex.refl _ | refine Ex.ext ?_ _ | refine Ex.alloc ?_ _ | refine Ex.drew ?_)⟩

theorem l4Over_c (s n : Int) (cs : List C4) (p : Option Addr) (cap : Nat) (w : World) (hcap : cs.length ≤ cap) (hc2 : cap ≤ 1000000000000) (hz : Sl w p cs) (hn : cs.length ≤ 1000) (hnd : cs.Nodup) (hok : ∀ z ∈ cs, Ok z) (h0 : 0 ≤ n) (h1 : n ≤ 81) :
    Calls Try.prog 76 #[.agg #[.int .i64 s, .int .i64 n, .slice p cs.length cap]] w fun e w' => e = .returned (.bool (overB n cs)) ∧ Ex w w' := by
  have Hz := Lib.hid hz
  have Hok := Lib.hid hok
  clear hz hok
  by_cases h : n = 81
  · subst h
    have hR : overB 81 cs = decide ((linesR cs).length = 0) := by simp [overB, capB]
    rw [hR]
    have hb := lines_small hn
    obtain ⟨m, hN⟩ : ∃ m, m = (linesR cs).length := ⟨_, rfl⟩
    rw [← hN] at hb ⊢
    have HN := Lib.hid hN
    clear hN hR
    go_enter Try.func76, Try.ntmps76
    go_wp2_with (go_at_call 64; refine (l4Lines_c _ _ _ _ hn hnd Hok.out (Hz.out.ex (by repeat (first | exact Ex.refl _ | refine Ex.ext ?_ _ | refine Ex.alloc ?_ _ | refine Ex.drew ?_)))).mono ?_; rw [← HN.out]; rintro e w' ⟨g, cap', rfl, ⟨x, rfl⟩, _⟩)
    go_ret
    exact ⟨ret_bool (by rw [Bool.eq_iff_iff]; simp; try omega), by repeat (first | exact Ex.refl _ | refine Ex.ext ?_ _ | refine Ex.alloc ?_ _ | refine Ex.drew ?_)⟩
  · have hR : overB n cs = false := by simp [overB, h]
    rw [hR]
    clear hR
    go_enter Try.func76, Try.ntmps76
    go_wp2
    go_ret
    exact ⟨rfl, by repeat (first | exact Ex.refl _ | refine Ex.ext ?_ _ | refine Ex.alloc ?_ _ | refine Ex.drew ?_)⟩

def stB (s n : Int) (cs : List C4) : Bool := dealB s n cs && capB cs
def ovB (s n : Int) (cs : List C4) : Bool := dealB s n cs && overB n cs
def dlR (s n : Int) (cs : List C4) : List (Nat × Nat × Nat) := if dealB s n cs then linesR cs else []
theorem dlR_len (s n : Int) (cs : List C4) : (dlR s n cs).length ≤ 1000000 := by
  unfold dlR; split
  · rename_i h; have hd := dealB_ok h; exact lines_small (by have := hd.len; have := hd.n1; omega)
  · simp

end Go.Proofs.Ytkelmfdbcicojaa
