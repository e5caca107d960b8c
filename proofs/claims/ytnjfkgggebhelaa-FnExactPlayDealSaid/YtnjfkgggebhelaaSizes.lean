/- The walks of DealSizes, and of the law on it. -/
import Derived.Test.YtnjfkgggebhelaaDStep
namespace Go.Proofs.Ytnjfkgggebhelaa
set_option linter.unusedSimpArgs false
set_option linter.unusedVariables false
set_option maxHeartbeats 1000000
set_option maxRecDepth 100000
open Go.RowKit


theorem Row.keepsB {lo hi cap b : Nat} {w w' : World} {p : Option Addr} {cs : List C4} (h : Row lo hi w p cap cs) (k : Keeps b w w') (hb : ∀ a, p = some a → a.block ≠ b) : Row lo hi w' p cap cs := by
  rcases h.blk with ⟨rfl, rfl, rfl⟩ | ⟨g, cur, rfl, h1, h2, h3, h4⟩
  · exact Row.nil _ _ _
  · exact ⟨RowV.keeps (g := g) h.own k (hb _ rfl), h.2⟩
theorem Row.past {lo hi cap b : Nat} {w : World} {p : Option Addr} {cs : List C4} (h : Row lo hi w p cap cs) (hb : b < lo) : ∀ a, p = some a → a.block ≠ b := by
  rcases h.blk with ⟨rfl, rfl, rfl⟩ | ⟨g, cur, rfl, h1, h2, h3, h4⟩
  · simp
  · intro a e; cases e; simp; omega

theorem RowV.lay1 {W : World} {g lo : Nat} {x : Int} (hg : g = W.heap.size) (hlo : lo ≤ g) : RowV 3 1 lo (W.alloc (.cells #[.int .i64 x] 3)) g 1 1 (intVals [x]) := by
  subst hg
  exact ⟨rfl, Or.inr ⟨W.heap.size, 1, _, rfl, hlo, heap_alloc_new W _, Nat.le_refl _, by unfold maxLen; omega, rfl, rfl⟩⟩

def sizesR (s : Int) : List Int := if isSeed s then 12 :: sizesP s 1000 12 ((pileR s).take 12) else []
theorem sizesP_len (s : Int) : ∀ (f : Nat) (n : Int) (cs : List C4), (sizesP s f n cs).length ≤ f
  | 0, _, _ => by simp [sizesP]
  | f + 1, n, cs => by
    unfold sizesP; split
    · simp
    · have := sizesP_len s f (stepN n cs) (stepL s n cs); simp; omega
theorem sizesR_len (s : Int) : (sizesR s).length ≤ 1001 := by
  unfold sizesR; split
  · have := sizesP_len s 1000 12 ((pileR s).take 12); simp; omega
  · simp
theorem over_eq (n : Int) (cs : List C4) : overP n cs = overB n cs := by
  simp [overP, overB, capB, Bool.eq_iff_iff]
theorem sizesP_stop {s : Int} {f : Nat} {n : Int} {cs : List C4} (h : overB n cs = true) : sizesP s f n cs = [] := by
  cases f with
  | zero => rfl
  | succ f => simp [sizesP, over_eq, h]
theorem sizesP_go {s : Int} {f : Nat} {n : Int} {cs : List C4} (hD : DealOk s n cs) (h : overB n cs = false) (hf : left n cs ≤ f) :
    ∃ f', left (stepN n cs) (stepL s n cs) ≤ f' ∧ sizesP s f n cs = ((stepL s n cs).length : Int) :: sizesP s f' (stepN n cs) (stepL s n cs) := by
  have ho : ¬ (n = 81 ∧ linesR cs = []) := by
    have e := over_eq n cs
    rw [h] at e
    exact of_decide_eq_false e
  have hlt := left_step hD ho
  cases f with
  | zero => omega
  | succ f => exact ⟨f, by omega, by simp [sizesP, over_eq, h]⟩
def slLen : Value → Nat
  | .slice _ n _ => n
  | _ => 0

theorem isStuck2_c (s n : Int) (cs : List C4) (p : Option Addr) (cap : Nat) (w : World) (hz : Sl w p cs) (hD : DealOk s n cs) :
    Calls Try.prog 101 #[.agg #[.int .i64 s, .int .i64 n, .slice p cs.length cap]] w fun e w' => e = .returned (.bool (capB cs)) ∧ Ex w w' := by
  have hn : cs.length ≤ 1000 := by have := hD.len; have := hD.n1; omega
  have Hz := Lib.hid hz
  have Hd := Lib.hid hD
  have hb := lines_small hn
  have hcapd : capB cs = decide ((linesR cs).length = 0) := rfl
  rw [hcapd]
  clear hcapd hz hD
  obtain ⟨m, hN⟩ : ∃ m, m = (linesR cs).length := ⟨_, rfl⟩
  rw [← hN] at hb ⊢
  have HN := Lib.hid hN
  clear hN
  go_enter Try.func101, Try.ntmps101
  go_wp2_with (go_at_call 91; refine (linesIn_c _ _ _ _ hn Hd.out.nodup Hd.out.ok (Hz.out.ex (by repeat (first | exact Ex.refl _ | refine Ex.ext ?_ _ | refine Ex.alloc ?_ _ | refine Ex.drew ?_)))).mono ?_; rw [← HN.out]; rintro e w' ⟨g, cap', rfl, ⟨x, rfl⟩, _⟩)
  go_ret
  exact ⟨ret_bool (by rw [Bool.eq_iff_iff]; simp; try omega), by repeat (first | exact Ex.refl _ | refine Ex.ext ?_ _ | refine Ex.alloc ?_ _ | refine Ex.drew ?_)⟩
theorem isOver2_c (s n : Int) (cs : List C4) (p : Option Addr) (cap : Nat) (w : World) (hz : Sl w p cs) (hD : DealOk s n cs) :
    Calls Try.prog 65 #[.agg #[.int .i64 s, .int .i64 n, .slice p cs.length cap]] w fun e w' => e = .returned (.bool (overB n cs)) ∧ Ex w w' := by
  have h0 := hD.n0
  have h1 := hD.n1
  have H := Lib.hid (fun w hz => isStuck2_c s n cs p cap w hz hD)
  have Hz := Lib.hid hz
  clear hz hD
  cases h : capB cs
  · have hR : overB n cs = false := by simp [overB, h]
    rw [hR]
    clear hR
    go_enter Try.func65, Try.ntmps65
    go_wp2_with (go_at_call 101; refine (H.out _ (Hz.out.ex (by repeat (first | exact Ex.refl _ | refine Ex.ext ?_ _ | refine Ex.alloc ?_ _ | refine Ex.drew ?_)))).mono ?_; rw [h]; rintro e w' ⟨rfl, x, rfl⟩)
    go_ret
    exact ⟨rfl, by repeat (first | exact Ex.refl _ | refine Ex.ext ?_ _ | refine Ex.alloc ?_ _ | refine Ex.drew ?_)⟩
  · have hR : overB n cs = decide (n = 81) := by simp [overB, h]
    rw [hR]
    clear hR
    go_enter Try.func65, Try.ntmps65
    go_wp2_with (go_at_call 101; refine (H.out _ (Hz.out.ex (by repeat (first | exact Ex.refl _ | refine Ex.ext ?_ _ | refine Ex.alloc ?_ _ | refine Ex.drew ?_)))).mono ?_; rw [h]; rintro e w' ⟨rfl, x, rfl⟩)
    go_ret
    exact ⟨ret_bool (by rw [Bool.eq_iff_iff]; simp), by repeat (first | exact Ex.refl _ | refine Ex.ext ?_ _ | refine Ex.alloc ?_ _ | refine Ex.drew ?_)⟩
theorem l4Over2_c (s n : Int) (cs : List C4) (p : Option Addr) (cap : Nat) (w : World) (hz : Sl w p cs) (hD : DealOk s n cs) :
    Calls Try.prog 60 #[.agg #[.int .i64 s, .int .i64 n, .slice p cs.length cap]] w fun e w' => e = .returned (.bool (overB n cs)) ∧ Ex w w' := by
  have hn : cs.length ≤ 1000 := by have := hD.len; have := hD.n1; omega
  have Hz := Lib.hid hz
  have Hd := Lib.hid hD
  clear hz hD
  by_cases h : n = 81
  · subst h
    have hR : overB 81 cs = decide ((linesR cs).length = 0) := by simp [overB, capB]
    rw [hR]
    have hb := lines_small hn
    obtain ⟨m, hN⟩ : ∃ m, m = (linesR cs).length := ⟨_, rfl⟩
    rw [← hN] at hb ⊢
    have HN := Lib.hid hN
    clear hN hR
    go_enter Try.func60, Try.ntmps60
    go_wp2_with (go_at_call 61; refine (l4Lines_c _ _ _ _ hn Hd.out.nodup Hd.out.ok (Hz.out.ex (by repeat (first | exact Ex.refl _ | refine Ex.ext ?_ _ | refine Ex.alloc ?_ _ | refine Ex.drew ?_)))).mono ?_; rw [← HN.out]; rintro e w' ⟨g, cap', rfl, ⟨x, rfl⟩, _⟩)
    go_ret
    exact ⟨ret_bool (by rw [Bool.eq_iff_iff]; simp; try omega), by repeat (first | exact Ex.refl _ | refine Ex.ext ?_ _ | refine Ex.alloc ?_ _ | refine Ex.drew ?_)⟩
  · have hR : overB n cs = false := by simp [overB, h]
    rw [hR]
    clear hR
    go_enter Try.func60, Try.ntmps60
    go_wp2
    go_ret
    exact ⟨rfl, by repeat (first | exact Ex.refl _ | refine Ex.ext ?_ _ | refine Ex.alloc ?_ _ | refine Ex.drew ?_)⟩

theorem nd_ok {s : Int} (h : isSeed s = true) : DealOk s 12 ((pileR s).take 12) := by
  have hb := isSeed_bd h
  exact ⟨hb.1, hb.2, by omega, by omega, (pileR_nodup s).sublist (List.take_sublist _ _), fun c hc => hc, by rw [take12]; omega, fun c hc => pileR_ok s c (List.mem_of_mem_take hc)⟩

end Go.Proofs.Ytnjfkgggebhelaa
