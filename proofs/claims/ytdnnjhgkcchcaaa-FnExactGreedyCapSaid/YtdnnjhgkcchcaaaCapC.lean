/- The walks of LinesIn, IsCap, BlockedCards, FreeCards, IsFullCap. -/
import Derived.Test.YtdnnjhgkcchcaaaLines
import Derived.Test.YtdnnjhgkcchcaaaAnch
namespace Go.Proofs.Ytdnnjhgkcchcaaa
set_option linter.unusedSimpArgs false
set_option linter.unusedVariables false
set_option maxHeartbeats 1000000
set_option maxRecDepth 100000
open Go.RowKit

theorem int_eq0 (n : Nat) : ((n : Int) == 0) = decide (n = 0) := by rw [Bool.eq_iff_iff]; simp
def liR (cs : List C4) : List (Nat × Nat × Nat) := if handB cs then linesR cs else []
theorem liR_len (cs : List C4) : (liR cs).length ≤ 1000000 := by
  unfold liR; split
  · rename_i h; exact lines_small (by have := (handB_ok h).2; omega)
  · simp

theorem specLinesIn_c (cs : List C4) (p : Option Addr) (cap : Nat) (w : World) (hn : cs.length ≤ 1000000000000) (hz : Sl w p cs) :
    Calls Try.prog 31 #[.slice p cs.length cap] w fun e w' => ∃ q cap', e = .returned (.tuple #[.slice q (liR cs).length cap', .bool (handB cs)]) ∧ Ex w w' ∧ RowZ 68 3 w.heap.size w'.heap.size w' q cap' (liR cs).length (triInts (liR cs)) := by
  have Hz := Lib.hid hz
  clear hz
  cases h1 : handB cs
  · have hR : liR cs = [] := by simp [liR, h1]
    rw [hR]
    clear hR
    go_enter Try.func31, Try.ntmps31
    go_wp2_with (first | (go_at_call 64; refine (l2Hand_c _ _ _ _ hn (Hz.out.ex (by repeat (first | exact Ex.refl _ | refine Ex.ext ?_ _ | refine Ex.alloc ?_ _ | refine Ex.drew ?_)))).mono ?_; rintro e w' ⟨rfl, x, rfl⟩; rw [h1]))
    go_ret2
    exact ⟨some ⟨w.heap.size + x.sz, 0, none⟩, 0, by simp, by repeat (first | exact Ex.refl _ | refine Ex.ext ?_ _ | refine Ex.alloc ?_ _ | refine Ex.drew ?_), ((RowV.start' _ _ _ _ (by simp [ext_size])).low (by simp [ext_size])).rowZ⟩
  · have hR : liR cs = linesR cs := by simp [liR, h1]
    rw [hR]
    clear hR
    have Hok := Lib.hid (handB_ok h1)
    have Hnd := Lib.hid (((handB_iff cs).1 h1).1.nodup)
    go_enter Try.func31, Try.ntmps31
    go_wp2_with (first | (go_at_call 64; refine (l2Hand_c _ _ _ _ hn (Hz.out.ex (by repeat (first | exact Ex.refl _ | refine Ex.ext ?_ _ | refine Ex.alloc ?_ _ | refine Ex.drew ?_)))).mono ?_; rintro e w' ⟨rfl, x, rfl⟩; rw [h1]) | (go_at_call 73; refine (l2Lines_c _ _ _ _ (by have := Hok.out.2; omega) Hok.out.1 (Hz.out.ex (by repeat (first | exact Ex.refl _ | refine Ex.ext ?_ _ | refine Ex.alloc ?_ _ | refine Ex.drew ?_)))).mono ?_; rintro e w1 ⟨g, cap', rfl, hx, hr⟩))
    go_ret2
    exact ⟨some ⟨g, 0, none⟩, cap', rfl, (show Ex w w1 from (by repeat (first | exact Ex.refl _ | assumption | refine Ex.ext ?_ _ | refine Ex.alloc ?_ _ | refine Ex.drew ?_ | refine Ex.trans ?_ (by assumption)))), RowV.rowZ (hr.low (by simp [ext_size]))⟩

theorem implLinesIn_c (cs : List C4) (p : Option Addr) (cap : Nat) (w : World) (hn : cs.length ≤ 1000000000000) (hz : Sl w p cs) :
    Calls Try.prog 32 #[.slice p cs.length cap] w fun e w' => ∃ q cap', e = .returned (.tuple #[.slice q (liR cs).length cap', .bool (handB cs)]) ∧ Ex w w' ∧ RowZ 68 3 w.heap.size w'.heap.size w' q cap' (liR cs).length (triInts (liR cs)) := by
  have Hz := Lib.hid hz
  clear hz
  cases h1 : handB cs
  · have hR : liR cs = [] := by simp [liR, h1]
    rw [hR]
    clear hR
    go_enter Try.func32, Try.ntmps32
    go_wp2_with (first | (go_at_call 66; refine (implIsHand_c _ _ _ _ hn (Hz.out.ex (by repeat (first | exact Ex.refl _ | refine Ex.ext ?_ _ | refine Ex.alloc ?_ _ | refine Ex.drew ?_)))).mono ?_; rintro e w' ⟨rfl, x, rfl⟩; rw [h1]))
    go_ret2
    exact ⟨none, 0, by simp, by repeat (first | exact Ex.refl _ | refine Ex.ext ?_ _ | refine Ex.alloc ?_ _ | refine Ex.drew ?_), RowZ.nil _ _ _⟩
  · have hR : liR cs = linesR cs := by simp [liR, h1]
    rw [hR]
    clear hR
    have Hok := Lib.hid (handB_ok h1)
    have Hnd := Lib.hid (((handB_iff cs).1 h1).1.nodup)
    go_enter Try.func32, Try.ntmps32
    go_wp2_with (first | (go_at_call 66; refine (implIsHand_c _ _ _ _ hn (Hz.out.ex (by repeat (first | exact Ex.refl _ | refine Ex.ext ?_ _ | refine Ex.alloc ?_ _ | refine Ex.drew ?_)))).mono ?_; rintro e w' ⟨rfl, x, rfl⟩; rw [h1]) | (go_at_call 74; refine (linesIn_c _ _ _ _ (by have := Hok.out.2; omega) Hnd.out Hok.out.1 (Hz.out.ex (by repeat (first | exact Ex.refl _ | refine Ex.ext ?_ _ | refine Ex.alloc ?_ _ | refine Ex.drew ?_)))).mono ?_; rintro e w1 ⟨g, cap', rfl, hx, hr⟩))
    go_ret2
    exact ⟨some ⟨g, 0, none⟩, cap', rfl, (show Ex w w1 from (by repeat (first | exact Ex.refl _ | assumption | refine Ex.ext ?_ _ | refine Ex.alloc ?_ _ | refine Ex.drew ?_ | refine Ex.trans ?_ (by assumption)))), RowV.rowZ (hr.low (by simp [ext_size]))⟩

theorem l3Cap_c (cs : List C4) (p : Option Addr) (cap : Nat) (w : World) (hn : cs.length ≤ 1000) (hok : ∀ z ∈ cs, Ok z) (hz : Sl w p cs) :
    Calls Try.prog 76 #[.slice p cs.length cap] w fun e w' => e = .returned (.bool (capB cs)) ∧ Ex w w' := by
  have H := Lib.hid (l2Lines_c cs p cap w hn hok hz)
  have hb := lines_small hn
  clear hz
  have hcap : capB cs = decide ((linesR cs).length = 0) := rfl
  rw [hcap]
  clear hcap
  obtain ⟨n, hN⟩ : ∃ n, n = (linesR cs).length := ⟨_, rfl⟩
  rw [← hN] at hb ⊢
  have HN := Lib.hid hN
  clear hN
  go_enter Try.func76, Try.ntmps76
  go_wp2_with (go_at_call 73; refine H.out.mono ?_; rw [← HN.out]; rintro e w' ⟨g, cap', rfl, ⟨x, rfl⟩, _⟩)
  go_ret
  exact ⟨ret_bool (by rw [Bool.eq_iff_iff]; simp; try omega), by repeat (first | exact Ex.refl _ | refine Ex.ext ?_ _ | refine Ex.alloc ?_ _ | refine Ex.drew ?_)⟩
theorem isCap_c (cs : List C4) (p : Option Addr) (cap : Nat) (w : World) (hn : cs.length ≤ 1000) (hnd : cs.Nodup) (hok : ∀ z ∈ cs, Ok z) (hz : Sl w p cs) :
    Calls Try.prog 77 #[.slice p cs.length cap] w fun e w' => e = .returned (.bool (capB cs)) ∧ Ex w w' := by
  have H := Lib.hid (linesIn_c cs p cap w hn hnd hok hz)
  have hb := lines_small hn
  clear hz
  have hcap : capB cs = decide ((linesR cs).length = 0) := rfl
  rw [hcap]
  clear hcap
  obtain ⟨n, hN⟩ : ∃ n, n = (linesR cs).length := ⟨_, rfl⟩
  rw [← hN] at hb ⊢
  have HN := Lib.hid hN
  clear hN
  go_enter Try.func77, Try.ntmps77
  go_wp2_with (go_at_call 74; refine H.out.mono ?_; rw [← HN.out]; rintro e w' ⟨g, cap', rfl, ⟨x, rfl⟩, _⟩)
  go_ret
  exact ⟨ret_bool (by rw [Bool.eq_iff_iff]; simp; try omega), by repeat (first | exact Ex.refl _ | refine Ex.ext ?_ _ | refine Ex.alloc ?_ _ | refine Ex.drew ?_)⟩

def icB (cs : List C4) : Bool := handB cs && capB cs

theorem specIsCap_c (cs : List C4) (p : Option Addr) (cap : Nat) (w : World) (hn : cs.length ≤ 1000000000000) (hz : Sl w p cs) :
    Calls Try.prog 36 #[.slice p cs.length cap] w fun e w' => e = .returned (.tuple #[.bool (icB cs), .bool (handB cs)]) ∧ Ex w w' := by
  have Hz := Lib.hid hz
  clear hz
  cases h1 : handB cs
  · have hR : icB cs = false := by simp [icB, h1]
    rw [hR]
    clear hR
    go_enter Try.func36, Try.ntmps36
    go_wp2_with (first | (go_at_call 64; refine (l2Hand_c _ _ _ _ hn (Hz.out.ex (by repeat (first | exact Ex.refl _ | refine Ex.ext ?_ _ | refine Ex.alloc ?_ _ | refine Ex.drew ?_)))).mono ?_; rintro e w' ⟨rfl, x, rfl⟩; rw [h1]))
    go_ret2
    exact ⟨rfl, by repeat (first | exact Ex.refl _ | refine Ex.ext ?_ _ | refine Ex.alloc ?_ _ | refine Ex.drew ?_)⟩
  · have hR : icB cs = capB cs := by simp [icB, h1]
    rw [hR]
    clear hR
    have Hok := Lib.hid (handB_ok h1)
    have Hnd := Lib.hid (((handB_iff cs).1 h1).1.nodup)
    go_enter Try.func36, Try.ntmps36
    go_wp2_with (first | (go_at_call 64; refine (l2Hand_c _ _ _ _ hn (Hz.out.ex (by repeat (first | exact Ex.refl _ | refine Ex.ext ?_ _ | refine Ex.alloc ?_ _ | refine Ex.drew ?_)))).mono ?_; rintro e w' ⟨rfl, x, rfl⟩; rw [h1]) | (go_at_call 76; refine (l3Cap_c _ _ _ _ (by have := Hok.out.2; omega) Hok.out.1 (Hz.out.ex (by repeat (first | exact Ex.refl _ | refine Ex.ext ?_ _ | refine Ex.alloc ?_ _ | refine Ex.drew ?_)))).mono ?_; rintro e w' ⟨rfl, x, rfl⟩))
    go_ret2
    exact ⟨rfl, by repeat (first | exact Ex.refl _ | refine Ex.ext ?_ _ | refine Ex.alloc ?_ _ | refine Ex.drew ?_)⟩

theorem implIsCap_c (cs : List C4) (p : Option Addr) (cap : Nat) (w : World) (hn : cs.length ≤ 1000000000000) (hz : Sl w p cs) :
    Calls Try.prog 37 #[.slice p cs.length cap] w fun e w' => e = .returned (.tuple #[.bool (icB cs), .bool (handB cs)]) ∧ Ex w w' := by
  have Hz := Lib.hid hz
  clear hz
  cases h1 : handB cs
  · have hR : icB cs = false := by simp [icB, h1]
    rw [hR]
    clear hR
    go_enter Try.func37, Try.ntmps37
    go_wp2_with (first | (go_at_call 66; refine (implIsHand_c _ _ _ _ hn (Hz.out.ex (by repeat (first | exact Ex.refl _ | refine Ex.ext ?_ _ | refine Ex.alloc ?_ _ | refine Ex.drew ?_)))).mono ?_; rintro e w' ⟨rfl, x, rfl⟩; rw [h1]))
    go_ret2
    exact ⟨rfl, by repeat (first | exact Ex.refl _ | refine Ex.ext ?_ _ | refine Ex.alloc ?_ _ | refine Ex.drew ?_)⟩
  · have hR : icB cs = capB cs := by simp [icB, h1]
    rw [hR]
    clear hR
    have Hok := Lib.hid (handB_ok h1)
    have Hnd := Lib.hid (((handB_iff cs).1 h1).1.nodup)
    go_enter Try.func37, Try.ntmps37
    go_wp2_with (first | (go_at_call 66; refine (implIsHand_c _ _ _ _ hn (Hz.out.ex (by repeat (first | exact Ex.refl _ | refine Ex.ext ?_ _ | refine Ex.alloc ?_ _ | refine Ex.drew ?_)))).mono ?_; rintro e w' ⟨rfl, x, rfl⟩; rw [h1]) | (go_at_call 77; refine (isCap_c _ _ _ _ (by have := Hok.out.2; omega) Hnd.out Hok.out.1 (Hz.out.ex (by repeat (first | exact Ex.refl _ | refine Ex.ext ?_ _ | refine Ex.alloc ?_ _ | refine Ex.drew ?_)))).mono ?_; rintro e w' ⟨rfl, x, rfl⟩))
    go_ret2
    exact ⟨rfl, by repeat (first | exact Ex.refl _ | refine Ex.ext ?_ _ | refine Ex.alloc ?_ _ | refine Ex.drew ?_)⟩

def bcR (cs : List C4) : List Int := if handB cs then sel (outF cs true) 81 else []
theorem bcR_len (cs : List C4) : (bcR cs).length ≤ 81 := by
  unfold bcR; split
  · exact sel_len _ _
  · simp

theorem specBlockedCards_c (cs : List C4) (p : Option Addr) (cap : Nat) (w : World) (hn : cs.length ≤ 1000000000000) (hz : Sl w p cs) :
    Calls Try.prog 58 #[.slice p cs.length cap] w fun e w' => ∃ q cap', e = .returned (.tuple #[.slice q (bcR cs).length cap', .bool (handB cs)]) ∧ Ex w w' ∧ RowI w.heap.size w'.heap.size w' q cap' (bcR cs) := by
  have Hz := Lib.hid hz
  clear hz
  cases h1 : handB cs
  · have hR : bcR cs = [] := by simp [bcR, h1]
    rw [hR]
    clear hR
    go_enter Try.func58, Try.ntmps58
    go_wp2_with (first | (go_at_call 64; refine (l2Hand_c _ _ _ _ hn (Hz.out.ex (by repeat (first | exact Ex.refl _ | refine Ex.ext ?_ _ | refine Ex.alloc ?_ _ | refine Ex.drew ?_)))).mono ?_; rintro e w' ⟨rfl, x, rfl⟩; rw [h1]))
    go_ret2
    exact ⟨some ⟨w.heap.size + x.sz, 0, none⟩, 0, by simp, by repeat (first | exact Ex.refl _ | refine Ex.ext ?_ _ | refine Ex.alloc ?_ _ | refine Ex.drew ?_), ((RowV.start' _ _ _ _ (by simp [ext_size])).low (by simp [ext_size])).rowI rfl⟩
  · have hR : bcR cs = sel (outF cs true) 81 := by simp [bcR, h1]
    rw [hR]
    clear hR
    have Hok := Lib.hid (handB_ok h1)
    have Hnd := Lib.hid (((handB_iff cs).1 h1).1.nodup)
    go_enter Try.func58, Try.ntmps58
    go_wp2_with (first | (go_at_call 64; refine (l2Hand_c _ _ _ _ hn (Hz.out.ex (by repeat (first | exact Ex.refl _ | refine Ex.ext ?_ _ | refine Ex.alloc ?_ _ | refine Ex.drew ?_)))).mono ?_; rintro e w' ⟨rfl, x, rfl⟩; rw [h1]) | (go_at_call 98; refine (l3Cards_c _ _ _ _ _ (by have := Hok.out.2; omega) Hok.out.1 (Hz.out.ex (by repeat (first | exact Ex.refl _ | refine Ex.ext ?_ _ | refine Ex.alloc ?_ _ | refine Ex.drew ?_)))).mono ?_; rintro e w1 ⟨g, cap', rfl, hx, hr⟩))
    go_ret2
    exact ⟨some ⟨g, 0, none⟩, cap', rfl, (show Ex w w1 from (by repeat (first | exact Ex.refl _ | assumption | refine Ex.ext ?_ _ | refine Ex.alloc ?_ _ | refine Ex.drew ?_ | refine Ex.trans ?_ (by assumption)))), RowV.rowI (hr.low (by simp [ext_size])) rfl⟩

theorem implBlockedCards_c (cs : List C4) (p : Option Addr) (cap : Nat) (w : World) (hn : cs.length ≤ 1000000000000) (hz : Sl w p cs) :
    Calls Try.prog 59 #[.slice p cs.length cap] w fun e w' => ∃ q cap', e = .returned (.tuple #[.slice q (bcR cs).length cap', .bool (handB cs)]) ∧ Ex w w' ∧ RowI w.heap.size w'.heap.size w' q cap' (bcR cs) := by
  have Hz := Lib.hid hz
  clear hz
  cases h1 : handB cs
  · have hR : bcR cs = [] := by simp [bcR, h1]
    rw [hR]
    clear hR
    go_enter Try.func59, Try.ntmps59
    go_wp2_with (first | (go_at_call 66; refine (implIsHand_c _ _ _ _ hn (Hz.out.ex (by repeat (first | exact Ex.refl _ | refine Ex.ext ?_ _ | refine Ex.alloc ?_ _ | refine Ex.drew ?_)))).mono ?_; rintro e w' ⟨rfl, x, rfl⟩; rw [h1]))
    go_ret2
    exact ⟨none, 0, by simp, by repeat (first | exact Ex.refl _ | refine Ex.ext ?_ _ | refine Ex.alloc ?_ _ | refine Ex.drew ?_), RowI.nil _ _ _⟩
  · have hR : bcR cs = sel (outF cs true) 81 := by simp [bcR, h1]
    rw [hR]
    clear hR
    have Hok := Lib.hid (handB_ok h1)
    have Hnd := Lib.hid (((handB_iff cs).1 h1).1.nodup)
    go_enter Try.func59, Try.ntmps59
    go_wp2_with (first | (go_at_call 66; refine (implIsHand_c _ _ _ _ hn (Hz.out.ex (by repeat (first | exact Ex.refl _ | refine Ex.ext ?_ _ | refine Ex.alloc ?_ _ | refine Ex.drew ?_)))).mono ?_; rintro e w' ⟨rfl, x, rfl⟩; rw [h1]) | (go_at_call 99; refine (outside_c _ _ _ _ _ (by have := Hok.out.2; omega) Hok.out.1 (Hz.out.ex (by repeat (first | exact Ex.refl _ | refine Ex.ext ?_ _ | refine Ex.alloc ?_ _ | refine Ex.drew ?_)))).mono ?_; rintro e w1 ⟨g, cap', rfl, hx, hr⟩))
    go_ret2
    exact ⟨some ⟨g, 0, none⟩, cap', rfl, (show Ex w w1 from (by repeat (first | exact Ex.refl _ | assumption | refine Ex.ext ?_ _ | refine Ex.alloc ?_ _ | refine Ex.drew ?_ | refine Ex.trans ?_ (by assumption)))), RowV.rowI (hr.low (by simp [ext_size])) rfl⟩

def fcR (cs : List C4) : List Int := if handB cs then sel (outF cs false) 81 else []
theorem fcR_len (cs : List C4) : (fcR cs).length ≤ 81 := by
  unfold fcR; split
  · exact sel_len _ _
  · simp

theorem specFreeCards_c (cs : List C4) (p : Option Addr) (cap : Nat) (w : World) (hn : cs.length ≤ 1000000000000) (hz : Sl w p cs) :
    Calls Try.prog 60 #[.slice p cs.length cap] w fun e w' => ∃ q cap', e = .returned (.tuple #[.slice q (fcR cs).length cap', .bool (handB cs)]) ∧ Ex w w' ∧ RowI w.heap.size w'.heap.size w' q cap' (fcR cs) := by
  have Hz := Lib.hid hz
  clear hz
  cases h1 : handB cs
  · have hR : fcR cs = [] := by simp [fcR, h1]
    rw [hR]
    clear hR
    go_enter Try.func60, Try.ntmps60
    go_wp2_with (first | (go_at_call 64; refine (l2Hand_c _ _ _ _ hn (Hz.out.ex (by repeat (first | exact Ex.refl _ | refine Ex.ext ?_ _ | refine Ex.alloc ?_ _ | refine Ex.drew ?_)))).mono ?_; rintro e w' ⟨rfl, x, rfl⟩; rw [h1]))
    go_ret2
    exact ⟨some ⟨w.heap.size + x.sz, 0, none⟩, 0, by simp, by repeat (first | exact Ex.refl _ | refine Ex.ext ?_ _ | refine Ex.alloc ?_ _ | refine Ex.drew ?_), ((RowV.start' _ _ _ _ (by simp [ext_size])).low (by simp [ext_size])).rowI rfl⟩
  · have hR : fcR cs = sel (outF cs false) 81 := by simp [fcR, h1]
    rw [hR]
    clear hR
    have Hok := Lib.hid (handB_ok h1)
    have Hnd := Lib.hid (((handB_iff cs).1 h1).1.nodup)
    go_enter Try.func60, Try.ntmps60
    go_wp2_with (first | (go_at_call 64; refine (l2Hand_c _ _ _ _ hn (Hz.out.ex (by repeat (first | exact Ex.refl _ | refine Ex.ext ?_ _ | refine Ex.alloc ?_ _ | refine Ex.drew ?_)))).mono ?_; rintro e w' ⟨rfl, x, rfl⟩; rw [h1]) | (go_at_call 98; refine (l3Cards_c _ _ _ _ _ (by have := Hok.out.2; omega) Hok.out.1 (Hz.out.ex (by repeat (first | exact Ex.refl _ | refine Ex.ext ?_ _ | refine Ex.alloc ?_ _ | refine Ex.drew ?_)))).mono ?_; rintro e w1 ⟨g, cap', rfl, hx, hr⟩))
    go_ret2
    exact ⟨some ⟨g, 0, none⟩, cap', rfl, (show Ex w w1 from (by repeat (first | exact Ex.refl _ | assumption | refine Ex.ext ?_ _ | refine Ex.alloc ?_ _ | refine Ex.drew ?_ | refine Ex.trans ?_ (by assumption)))), RowV.rowI (hr.low (by simp [ext_size])) rfl⟩

theorem implFreeCards_c (cs : List C4) (p : Option Addr) (cap : Nat) (w : World) (hn : cs.length ≤ 1000000000000) (hz : Sl w p cs) :
    Calls Try.prog 61 #[.slice p cs.length cap] w fun e w' => ∃ q cap', e = .returned (.tuple #[.slice q (fcR cs).length cap', .bool (handB cs)]) ∧ Ex w w' ∧ RowI w.heap.size w'.heap.size w' q cap' (fcR cs) := by
  have Hz := Lib.hid hz
  clear hz
  cases h1 : handB cs
  · have hR : fcR cs = [] := by simp [fcR, h1]
    rw [hR]
    clear hR
    go_enter Try.func61, Try.ntmps61
    go_wp2_with (first | (go_at_call 66; refine (implIsHand_c _ _ _ _ hn (Hz.out.ex (by repeat (first | exact Ex.refl _ | refine Ex.ext ?_ _ | refine Ex.alloc ?_ _ | refine Ex.drew ?_)))).mono ?_; rintro e w' ⟨rfl, x, rfl⟩; rw [h1]))
    go_ret2
    exact ⟨none, 0, by simp, by repeat (first | exact Ex.refl _ | refine Ex.ext ?_ _ | refine Ex.alloc ?_ _ | refine Ex.drew ?_), RowI.nil _ _ _⟩
  · have hR : fcR cs = sel (outF cs false) 81 := by simp [fcR, h1]
    rw [hR]
    clear hR
    have Hok := Lib.hid (handB_ok h1)
    have Hnd := Lib.hid (((handB_iff cs).1 h1).1.nodup)
    go_enter Try.func61, Try.ntmps61
    go_wp2_with (first | (go_at_call 66; refine (implIsHand_c _ _ _ _ hn (Hz.out.ex (by repeat (first | exact Ex.refl _ | refine Ex.ext ?_ _ | refine Ex.alloc ?_ _ | refine Ex.drew ?_)))).mono ?_; rintro e w' ⟨rfl, x, rfl⟩; rw [h1]) | (go_at_call 99; refine (outside_c _ _ _ _ _ (by have := Hok.out.2; omega) Hok.out.1 (Hz.out.ex (by repeat (first | exact Ex.refl _ | refine Ex.ext ?_ _ | refine Ex.alloc ?_ _ | refine Ex.drew ?_)))).mono ?_; rintro e w1 ⟨g, cap', rfl, hx, hr⟩))
    go_ret2
    exact ⟨some ⟨g, 0, none⟩, cap', rfl, (show Ex w w1 from (by repeat (first | exact Ex.refl _ | assumption | refine Ex.ext ?_ _ | refine Ex.alloc ?_ _ | refine Ex.drew ?_ | refine Ex.trans ?_ (by assumption)))), RowV.rowI (hr.low (by simp [ext_size])) rfl⟩

def fullB (cs : List C4) : Bool := handB cs && (capB cs && decide ((sel (outF cs false) 81).length = 0))

theorem specIsFullCap_c (cs : List C4) (p : Option Addr) (cap : Nat) (w : World) (hn : cs.length ≤ 1000000000000) (hz : Sl w p cs) :
    Calls Try.prog 62 #[.slice p cs.length cap] w fun e w' => e = .returned (.tuple #[.bool (fullB cs), .bool (handB cs)]) ∧ Ex w w' := by
  have Hz := Lib.hid hz
  clear hz
  cases h1 : handB cs
  · have hR : fullB cs = false := by simp [fullB, h1]
    rw [hR]
    clear hR
    go_enter Try.func62, Try.ntmps62
    go_wp2_with (first | (go_at_call 64; refine (l2Hand_c _ _ _ _ hn (Hz.out.ex (by repeat (first | exact Ex.refl _ | refine Ex.ext ?_ _ | refine Ex.alloc ?_ _ | refine Ex.drew ?_)))).mono ?_; rintro e w' ⟨rfl, x, rfl⟩; rw [h1]))
    go_ret2
    exact ⟨rfl, by repeat (first | exact Ex.refl _ | refine Ex.ext ?_ _ | refine Ex.alloc ?_ _ | refine Ex.drew ?_)⟩
  · have hR : fullB cs = (capB cs && decide ((sel (outF cs false) 81).length = 0)) := by simp [fullB, h1]
    rw [hR]
    clear hR
    have Hok := Lib.hid (handB_ok h1)
    have Hnd := Lib.hid (((handB_iff cs).1 h1).1.nodup)
    cases h2 : capB cs
    · go_enter Try.func62, Try.ntmps62
      go_wp2_with (first | (go_at_call 64; refine (l2Hand_c _ _ _ _ hn (Hz.out.ex (by repeat (first | exact Ex.refl _ | refine Ex.ext ?_ _ | refine Ex.alloc ?_ _ | refine Ex.drew ?_)))).mono ?_; rintro e w' ⟨rfl, x, rfl⟩; rw [h1]) | (go_at_call 76; refine (l3Cap_c _ _ _ _ (by have := Hok.out.2; omega) Hok.out.1 (Hz.out.ex (by repeat (first | exact Ex.refl _ | refine Ex.ext ?_ _ | refine Ex.alloc ?_ _ | refine Ex.drew ?_)))).mono ?_; rintro e w' ⟨rfl, x, rfl⟩; rw [h2]))
      go_ret2
      exact ⟨rfl, by repeat (first | exact Ex.refl _ | refine Ex.ext ?_ _ | refine Ex.alloc ?_ _ | refine Ex.drew ?_)⟩
    · have hb := sel_len (outF cs false) 81
      obtain ⟨n, hN⟩ : ∃ n, n = (sel (outF cs false) 81).length := ⟨_, rfl⟩
      rw [← hN] at hb ⊢
      have HN := Lib.hid hN
      clear hN
      go_enter Try.func62, Try.ntmps62
      go_wp2_with (first | (go_at_call 64; refine (l2Hand_c _ _ _ _ hn (Hz.out.ex (by repeat (first | exact Ex.refl _ | refine Ex.ext ?_ _ | refine Ex.alloc ?_ _ | refine Ex.drew ?_)))).mono ?_; rintro e w' ⟨rfl, x, rfl⟩; rw [h1]) | (go_at_call 76; refine (l3Cap_c _ _ _ _ (by have := Hok.out.2; omega) Hok.out.1 (Hz.out.ex (by repeat (first | exact Ex.refl _ | refine Ex.ext ?_ _ | refine Ex.alloc ?_ _ | refine Ex.drew ?_)))).mono ?_; rintro e w' ⟨rfl, x, rfl⟩; rw [h2]) | (go_at_call 98; refine (l3Cards_c _ _ _ _ _ (by have := Hok.out.2; omega) Hok.out.1 (Hz.out.ex (by repeat (first | exact Ex.refl _ | refine Ex.ext ?_ _ | refine Ex.alloc ?_ _ | refine Ex.drew ?_)))).mono ?_; rw [← HN.out]; rintro e w' ⟨g, cap', rfl, ⟨x, rfl⟩, _⟩))
      go_ret2
      exact ⟨by simp; exact int_eq0 n, by repeat (first | exact Ex.refl _ | refine Ex.ext ?_ _ | refine Ex.alloc ?_ _ | refine Ex.drew ?_)⟩

theorem implIsFullCap_c (cs : List C4) (p : Option Addr) (cap : Nat) (w : World) (hn : cs.length ≤ 1000000000000) (hz : Sl w p cs) :
    Calls Try.prog 63 #[.slice p cs.length cap] w fun e w' => e = .returned (.tuple #[.bool (fullB cs), .bool (handB cs)]) ∧ Ex w w' := by
  have Hz := Lib.hid hz
  clear hz
  cases h1 : handB cs
  · have hR : fullB cs = false := by simp [fullB, h1]
    rw [hR]
    clear hR
    go_enter Try.func63, Try.ntmps63
    go_wp2_with (first | (go_at_call 66; refine (implIsHand_c _ _ _ _ hn (Hz.out.ex (by repeat (first | exact Ex.refl _ | refine Ex.ext ?_ _ | refine Ex.alloc ?_ _ | refine Ex.drew ?_)))).mono ?_; rintro e w' ⟨rfl, x, rfl⟩; rw [h1]))
    go_ret2
    exact ⟨rfl, by repeat (first | exact Ex.refl _ | refine Ex.ext ?_ _ | refine Ex.alloc ?_ _ | refine Ex.drew ?_)⟩
  · have hR : fullB cs = (capB cs && decide ((sel (outF cs false) 81).length = 0)) := by simp [fullB, h1]
    rw [hR]
    clear hR
    have Hok := Lib.hid (handB_ok h1)
    have Hnd := Lib.hid (((handB_iff cs).1 h1).1.nodup)
    cases h2 : capB cs
    · go_enter Try.func63, Try.ntmps63
      go_wp2_with (first | (go_at_call 66; refine (implIsHand_c _ _ _ _ hn (Hz.out.ex (by repeat (first | exact Ex.refl _ | refine Ex.ext ?_ _ | refine Ex.alloc ?_ _ | refine Ex.drew ?_)))).mono ?_; rintro e w' ⟨rfl, x, rfl⟩; rw [h1]) | (go_at_call 77; refine (isCap_c _ _ _ _ (by have := Hok.out.2; omega) Hnd.out Hok.out.1 (Hz.out.ex (by repeat (first | exact Ex.refl _ | refine Ex.ext ?_ _ | refine Ex.alloc ?_ _ | refine Ex.drew ?_)))).mono ?_; rintro e w' ⟨rfl, x, rfl⟩; rw [h2]))
      go_ret2
      exact ⟨rfl, by repeat (first | exact Ex.refl _ | refine Ex.ext ?_ _ | refine Ex.alloc ?_ _ | refine Ex.drew ?_)⟩
    · have hb := sel_len (outF cs false) 81
      obtain ⟨n, hN⟩ : ∃ n, n = (sel (outF cs false) 81).length := ⟨_, rfl⟩
      rw [← hN] at hb ⊢
      have HN := Lib.hid hN
      clear hN
      go_enter Try.func63, Try.ntmps63
      go_wp2_with (first | (go_at_call 66; refine (implIsHand_c _ _ _ _ hn (Hz.out.ex (by repeat (first | exact Ex.refl _ | refine Ex.ext ?_ _ | refine Ex.alloc ?_ _ | refine Ex.drew ?_)))).mono ?_; rintro e w' ⟨rfl, x, rfl⟩; rw [h1]) | (go_at_call 77; refine (isCap_c _ _ _ _ (by have := Hok.out.2; omega) Hnd.out Hok.out.1 (Hz.out.ex (by repeat (first | exact Ex.refl _ | refine Ex.ext ?_ _ | refine Ex.alloc ?_ _ | refine Ex.drew ?_)))).mono ?_; rintro e w' ⟨rfl, x, rfl⟩; rw [h2]) | (go_at_call 99; refine (outside_c _ _ _ _ _ (by have := Hok.out.2; omega) Hok.out.1 (Hz.out.ex (by repeat (first | exact Ex.refl _ | refine Ex.ext ?_ _ | refine Ex.alloc ?_ _ | refine Ex.drew ?_)))).mono ?_; rw [← HN.out]; rintro e w' ⟨g, cap', rfl, ⟨x, rfl⟩, _⟩))
      go_ret2
      exact ⟨by simp; exact int_eq0 n, by repeat (first | exact Ex.refl _ | refine Ex.ext ?_ _ | refine Ex.alloc ?_ _ | refine Ex.drew ?_)⟩
end Go.Proofs.Ytdnnjhgkcchcaaa
