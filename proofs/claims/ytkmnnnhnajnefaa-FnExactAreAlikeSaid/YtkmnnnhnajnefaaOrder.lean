/- The walks of isOrder: the numbers of a slice are collected, sorted, made compact, and counted. -/
import Derived.Test.YtkmnnnhnajnefaaIter
import Derived.Test.YtkmnnnhnajnefaaPerm
import Derived.Test.YtkmnnnhnajnefaaShelf
import Derived.Lib.OwnBridge
namespace Go.Proofs.Ytkmnnnhnajnefaa
set_option linter.unusedSimpArgs false
set_option linter.unusedVariables false
set_option maxHeartbeats 1000000
set_option maxRecDepth 100000
open Go.RowKit Go.Sort

theorem values_c (a : Option Addr) (len cap : Nat) (w : World) :
    Calls Try.prog 89 #[.slice a len cap] w fun e w' => e = .returned (.func (.func 100) #[] #[.pointer (some ⟨w.heap.size, 0, none⟩)]) ∧ w' = w.alloc (.cells #[.slice a len cap] 29) := by
  go_enter Try.func89, Try.ntmps89
  go_wp2
  go_ret
  exact ⟨rfl, rfl⟩
theorem SlI.getD {w : World} {b o : Nat} {zs : List Int} (h : SlI w (some ⟨b, o, none⟩) zs) : ∀ j, j < zs.length → w.cell? ⟨b, o + j, none⟩ = some (.int .i64 (zs[j]?.getD 0)) := fun j hj => by
  obtain ⟨b', o', e, _, h1⟩ := h j hj
  cases e
  rw [h1]; simp [hj]
theorem appendSeq_c (Bs b off cap : Nat) (zs : List Int) (hn : zs.length ≤ 1000) (w : World) (hBs : Bs < w.heap.size) (hb : b < w.heap.size) (hc : w.cell? ⟨Bs, 0, none⟩ = some (.slice (some ⟨b, off, none⟩) zs.length cap)) (hI : SlI w (some ⟨b, off, none⟩) zs) :
    Calls Try.prog 105 #[.slice none 0 0, .func (.func 100) #[] #[.pointer (some ⟨Bs, 0, none⟩)]] w fun e W' => ∃ v, e = .returned v ∧ W'.ownsRow w.heap.size 3 1 v zs.length (zs.map (Value.int .i64)) ∧ (v = .slice none 0 0 ↔ zs = []) ∧ Below w.heap.size w W' :=
  (callsIn_wide (n := 3)).1 (appendSeq_in Fence.wide 3 trivial trivial rfl (by omega) Bs b off cap zs (by unfold maxLen; omega) (by omega) w hBs hb hc hI.getD)

theorem collect_c (Bs b off cap : Nat) (zs : List Int) (hn : zs.length ≤ 1000) (h0 : zs ≠ []) (w : World) (hBs : Bs < w.heap.size) (hb : b < w.heap.size) (hc : w.cell? ⟨Bs, 0, none⟩ = some (.slice (some ⟨b, off, none⟩) zs.length cap)) (hI : SlI w (some ⟨b, off, none⟩) zs) :
    Calls Try.prog 98 #[.func (.func 100) #[] #[.pointer (some ⟨Bs, 0, none⟩)]] w fun e w' => ∃ g c, e = .returned (.slice (some ⟨g, 0, none⟩) zs.length c) ∧ Ex w w' ∧ RowV 3 1 w.heap.size w' g c zs.length (zs.map (Value.int .i64)) := by
  have H := Lib.hid (appendSeq_c Bs b off cap zs hn w hBs hb hc hI)
  clear hc hI
  go_enter Try.func98, Try.ntmps98
  go_wp2_with (go_at_call 105; refine H.out.mono ?_; rintro e w' ⟨v, rfl, hown, hnil, hB⟩)
  go_ret
  have hE : Ex w w' := Ex.of_below hB
  rcases hown.2 with ⟨h1, h2⟩ | ⟨g, c, cur, rfl, h3⟩
  · exact absurd (hnil.1 h1) h0
  · exact ⟨g, c, rfl, hE, hown⟩

theorem holdsV {w : World} {lo g c n : Nat} {zs : List Int} (h : RowV 3 1 lo w g c n (zs.map (Value.int .i64))) : Holds (Value.int .i64) w g 0 zs.toArray := by
  obtain ⟨g', cap', e, _, _, _, _, _, h2⟩ := Lib.holds_of_ownsRow h (by simp)
  cases e; exact h2
/-- How XCard's word for ints reads. -/
theorem ints_of {w : World} {b o : Nat} {zs : List Int} (hb : b < w.heap.size) (h : SlI w (some ⟨b, o, none⟩) zs) : Ints w b o zs := ⟨hb, fun i hi => by
  obtain ⟨b', o', e, _, h1⟩ := h i hi
  cases e; exact h1⟩
theorem order_len {a b : Nat} : (((a : Int) == (b : Int)) : Bool) = decide (a = b) := by
  rw [Bool.eq_iff_iff]; simp; omega
end Go.Proofs.Ytkmnnnhnajnefaa
