/- impl.sorted and spec.l2Sorted. -/
import Derived.Test.YtnjfkgggebhelaaSort
import Derived.Test.YtnjfkgggebhelaaCompact
import Derived.Test.YtnjfkgggebhelaaLay
namespace Go.Proofs.Ytnjfkgggebhelaa
set_option linter.unusedSimpArgs false
set_option linter.unusedVariables false
set_option maxHeartbeats 1000000
set_option maxRecDepth 100000
open Go.RowKit

theorem clone_v {cs : List C4} {b o n cap : Nat} {w : World} (hl : cs.length = n) (hn : n ≤ 1000000000) (hz : Sl w (some ⟨b, o, none⟩) cs) :
    Calls Try.prog 51 #[.slice (some ⟨b, o, none⟩) n cap] w fun e w' => ∃ g cap', e = .returned (.slice (some ⟨g, 0, none⟩) n cap') ∧ Ex w w' ∧ RowV 29 4 w.heap.size w' g cap' n (cellsOf cs) := by
  subst hl
  have Hz := Lib.hid hz
  clear hz
  have hnil : ∀ w : World, (binOp .eql 22 (.slice (some ⟨b, o, none⟩) cs.length cap) (.slice none 0 0)).run Try.prog w = .ok (.bool false) w := fun w => Lib.run_eql_slice_some_nil w _ _ _ Try.underlying22
  have own0 := own_empty w 29 4
  go_enter Try.func51, Try.ntmps51
  go_wp2_with (at_builtin; refine list_apps (W0 := w) rfl (by repeat (first | exact Ex.refl _ | refine Ex.ext ?_ _ | refine Ex.alloc ?_ _ | refine Ex.drew ?_)) rfl _ _ rfl (.slice (some ⟨w.heap.size, 0, none⟩) 0 0) 0 [] rfl own0 cs.length cs rfl (Or.inr ⟨b, o, cap, rfl, Hz.out.ex (by repeat (first | exact Ex.refl _ | refine Ex.ext ?_ _ | refine Ex.alloc ?_ _ | refine Ex.drew ?_))⟩) (by omega) ?_; intro p cap' w' hown hp hnn hE; simp only [Nat.zero_add, List.nil_append] at hown ⊢)
  go_ret
  cases p with
  | none => have := (hnn rfl).1; simp at this
  | some a =>
    rcases hown.2 with ⟨h1, h2⟩ | ⟨g, cap2, cur, h1, h2, h3, h4⟩
    · simp at h1
    · simp at h1
      obtain ⟨rfl, rfl⟩ := h1
      exact ⟨g, cap', rfl, hE, hown⟩

theorem sorted_c (cs : List C4) (b o cap : Nat) (w : World) (hn : cs.length ≤ 100000000) (ho : ∀ z ∈ cs, Ok z) (hz : Sl w (some ⟨b, o, none⟩) cs) :
    Calls Try.prog 43 #[.slice (some ⟨b, o, none⟩) cs.length cap] w fun e w' => ∃ g cap', e = .returned (.slice (some ⟨g, 0, none⟩) (sortU cs).length cap') ∧ Ex w w' ∧ RowV 29 4 w.heap.size w' g cap' (sortU cs).length (cellsOf (sortU cs)) := by
  have Hz := Lib.hid hz
  have Ho := Lib.hid ho
  clear hz ho
  go_enter Try.func43, Try.ntmps43
  go_upto_region 2 with (go_at_call 51; refine (clone_v rfl (by omega) Hz.out).mono ?_; rintro e w1 ⟨g, c1, rfl, hE1, hr1⟩)
  have HE1 := Lib.hid hE1
  have HR1 := Lib.hid hr1
  clear hE1 hr1
  go_upto_region 3 with (go_at_call 82; refine (sortFunc_c cs g c1 _ _ hn Ho.out HR1.out).mono ?_; rintro e w2 ⟨rfl, ds, hp, hs, hr2, hk2⟩)
  have HP := Lib.hid hp
  have HS := Lib.hid hs
  have HR2 := Lib.hid hr2
  have HK2 := Lib.hid hk2
  have hlen := hp.length_eq
  have hsu := sorted_eq Ho.out hp hs
  have hsl := sortU_len_le Ho.out hp hs
  clear hp hs hr2 hk2
  rw [← hsu] at hsl
  have HSU := Lib.hid hsu
  clear hsu
  have hn' : ds.length ≤ 100000000 := by omega
  have hsl' : (Lib.compact ds).length ≤ ds.length := by omega
  have HR2' := Lib.hid (show RowV 29 4 w.heap.size w2 g c1 ds.length (cellsOf ds) by rw [hlen]; exact HR2.out)
  clear hsl
  go_wp2_with (first | (go_at_call 84; rw [← hlen]; refine (compact_c ds g c1 _ _ hn' HR2'.out).mono ?_; rintro e w3 ⟨rfl, hr3, hk3⟩) |
    (go_at_call 51; refine (clone_v rfl (by omega) (hr3.row rfl).sl).mono ?_; rintro e w4 ⟨g4, c4, rfl, hE4, hr4⟩))
  go_ret
  rw [← HSU.out]
  have hE3 : Ex w w3 := Keeps.ex HE1.out (HK2.out.trans hk3) HR1.out.blk.1
  exact ⟨g4, c4, rfl, hE3.trans hE4, hr4.low hE3.below.size⟩
end Go.Proofs.Ytnjfkgggebhelaa
