/- The walks of IsDeal, IsStuck, IsOverDeal, DealLines. -/
import Derived.Test.YtdnnjhgkcchcaaaIsDeal
import Derived.Test.YtdnnjhgkcchcaaaCapC
namespace Go.Proofs.Ytdnnjhgkcchcaaa
set_option linter.unusedSimpArgs false
set_option linter.unusedVariables false
set_option maxHeartbeats 1000000
set_option maxRecDepth 100000
open Go.RowKit


theorem specIsDeal_c (s n : Int) (cs : List C4) (p : Option Addr) (cap : Nat) (w : World) (hcap : cs.length ≤ cap) (hc2 : cap ≤ 1000000000000) (hz : Sl w p cs) :
    Calls Try.prog 27 #[.agg #[.int .i64 s, .int .i64 n, .slice p cs.length cap]] w fun e w' => e = .returned (.bool (dealB s n cs)) ∧ Ex w w' := by
  have Hz := Lib.hid hz
  clear hz
  go_enter Try.func27, Try.ntmps27
  go_wp2_with (go_at_call 69; refine (l4Deal_c _ _ _ _ _ _ hcap hc2 (Hz.out.ex (by repeat (first | exact Ex.refl _ | refine Ex.ext ?_ _ | refine Ex.alloc ?_ _ | refine Ex.drew ?_)))).mono ?_; rintro e w' ⟨rfl, x, rfl⟩)
  go_ret
  exact ⟨rfl, by repeat (first | exact Ex.refl _ | refine Ex.ext ?_ _ | refine Ex.alloc ?_ _ | refine Ex.drew ?_)⟩

theorem isStuck_c (s n : Int) (cs : List C4) (p : Option Addr) (cap : Nat) (w : World) (hcap : cs.length ≤ cap) (hc2 : cap ≤ 1000000000000) (hz : Sl w p cs) (hn : cs.length ≤ 1000) (hnd : cs.Nodup) (hok : ∀ z ∈ cs, Ok z) :
    Calls Try.prog 95 #[.agg #[.int .i64 s, .int .i64 n, .slice p cs.length cap]] w fun e w' => e = .returned (.bool (capB cs)) ∧ Ex w w' := by
  have Hz := Lib.hid hz
  have Hok := Lib.hid hok
  have hb := lines_small hn
  have hcapd : capB cs = decide ((linesR cs).length = 0) := rfl
  rw [hcapd]
  clear hcapd hz hok
  obtain ⟨m, hN⟩ : ∃ m, m = (linesR cs).length := ⟨_, rfl⟩
  rw [← hN] at hb ⊢
  have HN := Lib.hid hN
  clear hN
  go_enter Try.func95, Try.ntmps95
  go_wp2_with (go_at_call 74; refine (linesIn_c _ _ _ _ hn hnd Hok.out (Hz.out.ex (by repeat (first | exact Ex.refl _ | refine Ex.ext ?_ _ | refine Ex.alloc ?_ _ | refine Ex.drew ?_)))).mono ?_; rw [← HN.out]; rintro e w' ⟨g, cap', rfl, ⟨x, rfl⟩, _⟩)
  go_ret
  exact ⟨ret_bool (by rw [Bool.eq_iff_iff]; simp; try omega), by repeat (first | exact Ex.refl _ | refine Ex.ext ?_ _ | refine Ex.alloc ?_ _ | refine Ex.drew ?_)⟩

def overB (n : Int) (cs : List C4) : Bool := decide (n = 81) && capB cs

theorem isOver_c (s n : Int) (cs : List C4) (p : Option Addr) (cap : Nat) (w : World) (hcap : cs.length ≤ cap) (hc2 : cap ≤ 1000000000000) (hz : Sl w p cs) (hn : cs.length ≤ 1000) (hnd : cs.Nodup) (hok : ∀ z ∈ cs, Ok z) (h0 : 0 ≤ n) (h1 : n ≤ 81) :
    Calls Try.prog 97 #[.agg #[.int .i64 s, .int .i64 n, .slice p cs.length cap]] w fun e w' => e = .returned (.bool (overB n cs)) ∧ Ex w w' := by
  have H := Lib.hid (fun w hz => isStuck_c s n cs p cap w hcap hc2 hz hn hnd hok)
  have Hz := Lib.hid hz
  clear hz hok
  cases h : capB cs
  · have hR : overB n cs = false := by simp [overB, h]
    rw [hR]
    clear hR
    go_enter Try.func97, Try.ntmps97
    go_wp2_with (go_at_call 95; refine (H.out _ (Hz.out.ex (by repeat (first | exact Ex.refl _ | refine Ex.ext ?_ _ | refine Ex.alloc ?_ _ | refine Ex.drew ?_)))).mono ?_; rw [h]; rintro e w' ⟨rfl, x, rfl⟩)
    go_ret
    exact ⟨rfl, by repeat (first | exact Ex.refl _ | refine Ex.ext ?_ _ | refine Ex.alloc ?_ _ | refine Ex.drew ?_)⟩
  · have hR : overB n cs = decide (n = 81) := by simp [overB, h]
    rw [hR]
    clear hR
    go_enter Try.func97, Try.ntmps97
    go_wp2_with (go_at_call 95; refine (H.out _ (Hz.out.ex (by repeat (first | exact Ex.refl _ | refine Ex.ext ?_ _ | refine Ex.alloc ?_ _ | refine Ex.drew ?_)))).mono ?_; rw [h]; rintro e w' ⟨rfl, x, rfl⟩)
    go_ret
    exact ⟨ret_bool (by rw [Bool.eq_iff_iff]; simp), by repeat (first | exact Ex.refl _ | refine Ex.ext ?_ _ | refine Ex.alloc ?_ _ | refine Ex.drew ?_)⟩

theorem l4Over_c (s n : Int) (cs : List C4) (p : Option Addr) (cap : Nat) (w : World) (hcap : cs.length ≤ cap) (hc2 : cap ≤ 1000000000000) (hz : Sl w p cs) (hn : cs.length ≤ 1000) (hnd : cs.Nodup) (hok : ∀ z ∈ cs, Ok z) (h0 : 0 ≤ n) (h1 : n ≤ 81) :
    Calls Try.prog 96 #[.agg #[.int .i64 s, .int .i64 n, .slice p cs.length cap]] w fun e w' => e = .returned (.bool (overB n cs)) ∧ Ex w w' := by
  have Hz := Lib.hid hz
  have Hok := Lib.hid hok
  clear hz hok
  by_cases h : n = 81
  · subst h
    have hR : overB 81 cs = decide ((linesR cs).length = 0) := by simp [overB, capB]
    rw [hR]
    have hb := lines_small hn
    obtain ⟨m, hN⟩ : ∃ m, m = (linesR cs).length := ⟨_, rfl⟩
    rw [← hN] at hb ⊢
    have HN := Lib.hid hN
    clear hN hR
    go_enter Try.func96, Try.ntmps96
    go_wp2_with (go_at_call 94; refine (l4Lines_c _ _ _ _ hn hnd Hok.out (Hz.out.ex (by repeat (first | exact Ex.refl _ | refine Ex.ext ?_ _ | refine Ex.alloc ?_ _ | refine Ex.drew ?_)))).mono ?_; rw [← HN.out]; rintro e w' ⟨g, cap', rfl, ⟨x, rfl⟩, _⟩)
    go_ret
    exact ⟨ret_bool (by rw [Bool.eq_iff_iff]; simp; try omega), by repeat (first | exact Ex.refl _ | refine Ex.ext ?_ _ | refine Ex.alloc ?_ _ | refine Ex.drew ?_)⟩
  · have hR : overB n cs = false := by simp [overB, h]
    rw [hR]
    clear hR
    go_enter Try.func96, Try.ntmps96
    go_wp2
    go_ret
    exact ⟨rfl, by repeat (first | exact Ex.refl _ | refine Ex.ext ?_ _ | refine Ex.alloc ?_ _ | refine Ex.drew ?_)⟩

def stB (s n : Int) (cs : List C4) : Bool := dealB s n cs && capB cs
def ovB (s n : Int) (cs : List C4) : Bool := dealB s n cs && overB n cs
def dlR (s n : Int) (cs : List C4) : List (Nat × Nat × Nat) := if dealB s n cs then linesR cs else []
theorem dlR_len (s n : Int) (cs : List C4) : (dlR s n cs).length ≤ 1000000 := by
  unfold dlR; split
  · rename_i h; have hd := dealB_ok h; exact lines_small (by have := hd.len; have := hd.n1; omega)
  · simp

theorem specIsStuck_c (s n : Int) (cs : List C4) (p : Option Addr) (cap : Nat) (w : World) (hcap : cs.length ≤ cap) (hc2 : cap ≤ 1000000000000) (hz : Sl w p cs) :
    Calls Try.prog 51 #[.agg #[.int .i64 s, .int .i64 n, .slice p cs.length cap]] w fun e w' => e = .returned (.tuple #[.bool (stB s n cs), .bool (dealB s n cs)]) ∧ Ex w w' := by
  have Hz := Lib.hid hz
  clear hz
  cases h1 : dealB s n cs
  · have hR : stB s n cs = false := by simp [stB, h1]
    rw [hR]
    clear hR
    go_enter Try.func51, Try.ntmps51
    go_wp2_with (go_at_call 69; refine (l4Deal_c _ _ _ _ _ _ hcap hc2 (Hz.out.ex (by repeat (first | exact Ex.refl _ | refine Ex.ext ?_ _ | refine Ex.alloc ?_ _ | refine Ex.drew ?_)))).mono ?_; rintro e w' ⟨rfl, x, rfl⟩; rw [h1])
    go_ret2
    exact ⟨rfl, by repeat (first | exact Ex.refl _ | refine Ex.ext ?_ _ | refine Ex.alloc ?_ _ | refine Ex.drew ?_)⟩
  · have hD := dealB_ok h1
    have hlen : cs.length ≤ 1000 := by have := hD.len; have := hD.n1; omega
    have Hok := Lib.hid hD.ok
    have Hnd := Lib.hid hD.nodup
    have hn0 := hD.n0
    have hn1 := hD.n1
    clear hD
    have hb := lines_small hlen
    have hR : stB s n cs = decide ((linesR cs).length = 0) := by simp [stB, h1, capB]
    rw [hR]
    clear hR
    obtain ⟨m, hN⟩ : ∃ m, m = (linesR cs).length := ⟨_, rfl⟩
    rw [← hN] at hb ⊢
    have HN := Lib.hid hN
    clear hN
    go_enter Try.func51, Try.ntmps51
    go_wp2_with (first | (go_at_call 69; refine (l4Deal_c _ _ _ _ _ _ hcap hc2 (Hz.out.ex (by repeat (first | exact Ex.refl _ | refine Ex.ext ?_ _ | refine Ex.alloc ?_ _ | refine Ex.drew ?_)))).mono ?_; rintro e w' ⟨rfl, x, rfl⟩; rw [h1]) | (go_at_call 94; refine (l4Lines_c _ _ _ _ hlen Hnd.out Hok.out (Hz.out.ex (by repeat (first | exact Ex.refl _ | refine Ex.ext ?_ _ | refine Ex.alloc ?_ _ | refine Ex.drew ?_)))).mono ?_; rw [← HN.out]; rintro e w' ⟨g, cap', rfl, ⟨x, rfl⟩, _⟩))
    go_ret2
    exact ⟨by simp; exact int_eq0 m, by repeat (first | exact Ex.refl _ | refine Ex.ext ?_ _ | refine Ex.alloc ?_ _ | refine Ex.drew ?_)⟩

theorem implIsStuck_c (s n : Int) (cs : List C4) (p : Option Addr) (cap : Nat) (w : World) (hcap : cs.length ≤ cap) (hc2 : cap ≤ 1000000000000) (hz : Sl w p cs) :
    Calls Try.prog 52 #[.agg #[.int .i64 s, .int .i64 n, .slice p cs.length cap]] w fun e w' => e = .returned (.tuple #[.bool (stB s n cs), .bool (dealB s n cs)]) ∧ Ex w w' := by
  have Hz := Lib.hid hz
  clear hz
  cases h1 : dealB s n cs
  · have hR : stB s n cs = false := by simp [stB, h1]
    rw [hR]
    clear hR
    go_enter Try.func52, Try.ntmps52
    go_wp2_with (go_at_call 29; refine (implIsDeal_c _ _ _ _ _ _ hcap hc2 (Hz.out.ex (by repeat (first | exact Ex.refl _ | refine Ex.ext ?_ _ | refine Ex.alloc ?_ _ | refine Ex.drew ?_)))).mono ?_; rintro e w' ⟨rfl, x, rfl⟩; rw [h1])
    go_ret2
    exact ⟨rfl, by repeat (first | exact Ex.refl _ | refine Ex.ext ?_ _ | refine Ex.alloc ?_ _ | refine Ex.drew ?_)⟩
  · have hD := dealB_ok h1
    have hlen : cs.length ≤ 1000 := by have := hD.len; have := hD.n1; omega
    have Hok := Lib.hid hD.ok
    have Hnd := Lib.hid hD.nodup
    have hn0 := hD.n0
    have hn1 := hD.n1
    clear hD
    have hR : stB s n cs = capB cs := by simp [stB, h1]
    rw [hR]
    clear hR
    go_enter Try.func52, Try.ntmps52
    go_wp2_with (first | (go_at_call 29; refine (implIsDeal_c _ _ _ _ _ _ hcap hc2 (Hz.out.ex (by repeat (first | exact Ex.refl _ | refine Ex.ext ?_ _ | refine Ex.alloc ?_ _ | refine Ex.drew ?_)))).mono ?_; rintro e w' ⟨rfl, x, rfl⟩; rw [h1]) | (go_at_call 95; refine (isStuck_c _ _ _ _ _ _ hcap hc2 (Hz.out.ex (by repeat (first | exact Ex.refl _ | refine Ex.ext ?_ _ | refine Ex.alloc ?_ _ | refine Ex.drew ?_))) hlen Hnd.out Hok.out).mono ?_; rintro e w' ⟨rfl, x, rfl⟩))
    go_ret2
    exact ⟨rfl, by repeat (first | exact Ex.refl _ | refine Ex.ext ?_ _ | refine Ex.alloc ?_ _ | refine Ex.drew ?_)⟩

theorem specIsOverDeal_c (s n : Int) (cs : List C4) (p : Option Addr) (cap : Nat) (w : World) (hcap : cs.length ≤ cap) (hc2 : cap ≤ 1000000000000) (hz : Sl w p cs) :
    Calls Try.prog 53 #[.agg #[.int .i64 s, .int .i64 n, .slice p cs.length cap]] w fun e w' => e = .returned (.tuple #[.bool (ovB s n cs), .bool (dealB s n cs)]) ∧ Ex w w' := by
  have Hz := Lib.hid hz
  clear hz
  cases h1 : dealB s n cs
  · have hR : ovB s n cs = false := by simp [ovB, h1]
    rw [hR]
    clear hR
    go_enter Try.func53, Try.ntmps53
    go_wp2_with (go_at_call 69; refine (l4Deal_c _ _ _ _ _ _ hcap hc2 (Hz.out.ex (by repeat (first | exact Ex.refl _ | refine Ex.ext ?_ _ | refine Ex.alloc ?_ _ | refine Ex.drew ?_)))).mono ?_; rintro e w' ⟨rfl, x, rfl⟩; rw [h1])
    go_ret2
    exact ⟨rfl, by repeat (first | exact Ex.refl _ | refine Ex.ext ?_ _ | refine Ex.alloc ?_ _ | refine Ex.drew ?_)⟩
  · have hD := dealB_ok h1
    have hlen : cs.length ≤ 1000 := by have := hD.len; have := hD.n1; omega
    have Hok := Lib.hid hD.ok
    have Hnd := Lib.hid hD.nodup
    have hn0 := hD.n0
    have hn1 := hD.n1
    clear hD
    have hR : ovB s n cs = overB n cs := by simp [ovB, h1]
    rw [hR]
    clear hR
    go_enter Try.func53, Try.ntmps53
    go_wp2_with (first | (go_at_call 69; refine (l4Deal_c _ _ _ _ _ _ hcap hc2 (Hz.out.ex (by repeat (first | exact Ex.refl _ | refine Ex.ext ?_ _ | refine Ex.alloc ?_ _ | refine Ex.drew ?_)))).mono ?_; rintro e w' ⟨rfl, x, rfl⟩; rw [h1]) | (go_at_call 96; refine (l4Over_c _ _ _ _ _ _ hcap hc2 (Hz.out.ex (by repeat (first | exact Ex.refl _ | refine Ex.ext ?_ _ | refine Ex.alloc ?_ _ | refine Ex.drew ?_))) hlen Hnd.out Hok.out hn0 hn1).mono ?_; rintro e w' ⟨rfl, x, rfl⟩))
    go_ret2
    exact ⟨rfl, by repeat (first | exact Ex.refl _ | refine Ex.ext ?_ _ | refine Ex.alloc ?_ _ | refine Ex.drew ?_)⟩

theorem implIsOverDeal_c (s n : Int) (cs : List C4) (p : Option Addr) (cap : Nat) (w : World) (hcap : cs.length ≤ cap) (hc2 : cap ≤ 1000000000000) (hz : Sl w p cs) :
    Calls Try.prog 54 #[.agg #[.int .i64 s, .int .i64 n, .slice p cs.length cap]] w fun e w' => e = .returned (.tuple #[.bool (ovB s n cs), .bool (dealB s n cs)]) ∧ Ex w w' := by
  have Hz := Lib.hid hz
  clear hz
  cases h1 : dealB s n cs
  · have hR : ovB s n cs = false := by simp [ovB, h1]
    rw [hR]
    clear hR
    go_enter Try.func54, Try.ntmps54
    go_wp2_with (go_at_call 29; refine (implIsDeal_c _ _ _ _ _ _ hcap hc2 (Hz.out.ex (by repeat (first | exact Ex.refl _ | refine Ex.ext ?_ _ | refine Ex.alloc ?_ _ | refine Ex.drew ?_)))).mono ?_; rintro e w' ⟨rfl, x, rfl⟩; rw [h1])
    go_ret2
    exact ⟨rfl, by repeat (first | exact Ex.refl _ | refine Ex.ext ?_ _ | refine Ex.alloc ?_ _ | refine Ex.drew ?_)⟩
  · have hD := dealB_ok h1
    have hlen : cs.length ≤ 1000 := by have := hD.len; have := hD.n1; omega
    have Hok := Lib.hid hD.ok
    have Hnd := Lib.hid hD.nodup
    have hn0 := hD.n0
    have hn1 := hD.n1
    clear hD
    have hR : ovB s n cs = overB n cs := by simp [ovB, h1]
    rw [hR]
    clear hR
    go_enter Try.func54, Try.ntmps54
    go_wp2_with (first | (go_at_call 29; refine (implIsDeal_c _ _ _ _ _ _ hcap hc2 (Hz.out.ex (by repeat (first | exact Ex.refl _ | refine Ex.ext ?_ _ | refine Ex.alloc ?_ _ | refine Ex.drew ?_)))).mono ?_; rintro e w' ⟨rfl, x, rfl⟩; rw [h1]) | (go_at_call 97; refine (isOver_c _ _ _ _ _ _ hcap hc2 (Hz.out.ex (by repeat (first | exact Ex.refl _ | refine Ex.ext ?_ _ | refine Ex.alloc ?_ _ | refine Ex.drew ?_))) hlen Hnd.out Hok.out hn0 hn1).mono ?_; rintro e w' ⟨rfl, x, rfl⟩))
    go_ret2
    exact ⟨rfl, by repeat (first | exact Ex.refl _ | refine Ex.ext ?_ _ | refine Ex.alloc ?_ _ | refine Ex.drew ?_)⟩

theorem specDealLines_c (s n : Int) (cs : List C4) (p : Option Addr) (cap : Nat) (w : World) (hcap : cs.length ≤ cap) (hc2 : cap ≤ 1000000000000) (hz : Sl w p cs) :
    Calls Try.prog 55 #[.agg #[.int .i64 s, .int .i64 n, .slice p cs.length cap]] w fun e w' => ∃ q cap', e = .returned (.tuple #[.slice q (dlR s n cs).length cap', .bool (dealB s n cs)]) ∧ Ex w w' ∧ RowZ 68 3 w.heap.size w'.heap.size w' q cap' (dlR s n cs).length (triInts (dlR s n cs)) := by
  have Hz := Lib.hid hz
  clear hz
  cases h1 : dealB s n cs
  · have hR : dlR s n cs = [] := by simp [dlR, h1]
    rw [hR]
    clear hR
    go_enter Try.func55, Try.ntmps55
    go_wp2_with (go_at_call 69; refine (l4Deal_c _ _ _ _ _ _ hcap hc2 (Hz.out.ex (by repeat (first | exact Ex.refl _ | refine Ex.ext ?_ _ | refine Ex.alloc ?_ _ | refine Ex.drew ?_)))).mono ?_; rintro e w' ⟨rfl, x, rfl⟩; rw [h1])
    go_ret2
    exact ⟨some ⟨w.heap.size + 1 + x.sz, 0, none⟩, 0, by simp, by repeat (first | exact Ex.refl _ | refine Ex.ext ?_ _ | refine Ex.alloc ?_ _ | refine Ex.drew ?_), ((RowV.start' _ _ _ (w.heap.size + 1 + x.sz) (by first | (simp; done) | (simp [ext_size]; done) | (simp [ext_size]; omega) | omega)).low (by first | (simp; done) | (simp [ext_size]; done) | (simp [ext_size]; omega) | omega)).rowZ⟩
  · have hD := dealB_ok h1
    have hlen : cs.length ≤ 1000 := by have := hD.len; have := hD.n1; omega
    have Hok := Lib.hid hD.ok
    have Hnd := Lib.hid hD.nodup
    clear hD
    have hR : dlR s n cs = linesR cs := by simp [dlR, h1]
    rw [hR]
    clear hR
    go_enter Try.func55, Try.ntmps55
    go_wp2_with (first | (go_at_call 69; refine (l4Deal_c _ _ _ _ _ _ hcap hc2 (Hz.out.ex (by repeat (first | exact Ex.refl _ | refine Ex.ext ?_ _ | refine Ex.alloc ?_ _ | refine Ex.drew ?_)))).mono ?_; rintro e w' ⟨rfl, x, rfl⟩; rw [h1]) | (go_at_call 94; refine (l4Lines_c _ _ _ _ hlen Hnd.out Hok.out (Hz.out.ex (by repeat (first | exact Ex.refl _ | refine Ex.ext ?_ _ | refine Ex.alloc ?_ _ | refine Ex.drew ?_)))).mono ?_; rintro e w1 ⟨g, cap', rfl, hx, hr⟩))
    go_ret2
    exact ⟨some ⟨g, 0, none⟩, cap', rfl, (show Ex w w1 from (by repeat (first | exact Ex.refl _ | assumption | refine Ex.ext ?_ _ | refine Ex.alloc ?_ _ | refine Ex.drew ?_ | refine Ex.trans ?_ (by assumption)))), (hr.low (by first | (simp; done) | (simp [ext_size]; done) | (simp [ext_size]; omega) | omega)).rowZ⟩

theorem implDealLines_c (s n : Int) (cs : List C4) (p : Option Addr) (cap : Nat) (w : World) (hcap : cs.length ≤ cap) (hc2 : cap ≤ 1000000000000) (hz : Sl w p cs) :
    Calls Try.prog 56 #[.agg #[.int .i64 s, .int .i64 n, .slice p cs.length cap]] w fun e w' => ∃ q cap', e = .returned (.tuple #[.slice q (dlR s n cs).length cap', .bool (dealB s n cs)]) ∧ Ex w w' ∧ RowZ 68 3 w.heap.size w'.heap.size w' q cap' (dlR s n cs).length (triInts (dlR s n cs)) := by
  have Hz := Lib.hid hz
  clear hz
  cases h1 : dealB s n cs
  · have hR : dlR s n cs = [] := by simp [dlR, h1]
    rw [hR]
    clear hR
    go_enter Try.func56, Try.ntmps56
    go_wp2_with (go_at_call 29; refine (implIsDeal_c _ _ _ _ _ _ hcap hc2 (Hz.out.ex (by repeat (first | exact Ex.refl _ | refine Ex.ext ?_ _ | refine Ex.alloc ?_ _ | refine Ex.drew ?_)))).mono ?_; rintro e w' ⟨rfl, x, rfl⟩; rw [h1])
    go_ret2
    exact ⟨none, 0, by simp, by repeat (first | exact Ex.refl _ | refine Ex.ext ?_ _ | refine Ex.alloc ?_ _ | refine Ex.drew ?_), RowZ.nil _ _ _⟩
  · have hD := dealB_ok h1
    have hlen : cs.length ≤ 1000 := by have := hD.len; have := hD.n1; omega
    have Hok := Lib.hid hD.ok
    have Hnd := Lib.hid hD.nodup
    clear hD
    have hR : dlR s n cs = linesR cs := by simp [dlR, h1]
    rw [hR]
    clear hR
    go_enter Try.func56, Try.ntmps56
    go_wp2_with (first | (go_at_call 29; refine (implIsDeal_c _ _ _ _ _ _ hcap hc2 (Hz.out.ex (by repeat (first | exact Ex.refl _ | refine Ex.ext ?_ _ | refine Ex.alloc ?_ _ | refine Ex.drew ?_)))).mono ?_; rintro e w' ⟨rfl, x, rfl⟩; rw [h1]) | (go_at_call 74; refine (linesIn_c _ _ _ _ hlen Hnd.out Hok.out (Hz.out.ex (by repeat (first | exact Ex.refl _ | refine Ex.ext ?_ _ | refine Ex.alloc ?_ _ | refine Ex.drew ?_)))).mono ?_; rintro e w1 ⟨g, cap', rfl, hx, hr⟩))
    go_ret2
    exact ⟨some ⟨g, 0, none⟩, cap', rfl, (show Ex w w1 from (by repeat (first | exact Ex.refl _ | assumption | refine Ex.ext ?_ _ | refine Ex.alloc ?_ _ | refine Ex.drew ?_ | refine Ex.trans ?_ (by assumption)))), (hr.low (by first | (simp; done) | (simp [ext_size]; done) | (simp [ext_size]; omega) | omega)).rowZ⟩
end Go.Proofs.Ytdnnjhgkcchcaaa
