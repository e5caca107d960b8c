/- Deals as arguments of the laws: szDeal, toDeal. -/
import Derived.Test.YtkelmfdbcicojaaDealL
import Derived.Test.YtkelmfdbcicojaaDealP
namespace Go.Proofs.Ytkelmfdbcicojaa
set_option linter.unusedSimpArgs false
set_option linter.unusedVariables false
set_option maxHeartbeats 1000000
set_option maxRecDepth 100000
open Go.RowKit


theorem ext_high {u u' : World} (x : Ext) (h : u'.heap.size = u.heap.size) (k : Nat) (hk : u.heap.size ≤ k) : (ext u' x).heap[k]? = (ext u x).heap[k]? := by
  simp only [ext]
  rw [Array.getElem?_append_right (by omega), Array.getElem?_append_right (by omega), h]
theorem Row.same {lo hi cap : Nat} {w w' : World} {p : Option Addr} {cs : List C4} (h : Row lo hi w p cap cs) (k : ∀ g, lo ≤ g → w'.heap[g]? = w.heap[g]?) : Row lo hi w' p cap cs := by
  refine ⟨⟨h.own.1, ?_⟩, h.top⟩
  rcases h.own.2 with h1 | ⟨g, cap', cur, h1, h2, h3, h4⟩
  · exact Or.inl h1
  · exact Or.inr ⟨g, cap', cur, h1, h2, by rw [k g h2]; exact h3, h4⟩
theorem Row.high {lo hi cap : Nat} {u u' : World} {x : Ext} {p : Option Addr} {cs : List C4} (h : Row lo hi (ext u x) p cap cs) (hs : u'.heap.size = u.heap.size) (hl : u.heap.size ≤ lo) : Row lo hi (ext u' x) p cap cs :=
  h.same fun g hg => ext_high x hs g (by omega)
theorem Row.lens {lo hi cap : Nat} {w : World} {p : Option Addr} {cs : List C4} (h : Row lo hi w p cap cs) : cs.length ≤ cap ∧ cap ≤ maxLen := by
  rcases h.blk with ⟨rfl, rfl, rfl⟩ | ⟨g, cur, rfl, _, _, _, _, h1, h2, _⟩
  · simp
  · exact ⟨h1, h2⟩

theorem szDeal_c (s n : Int) (p : Option Addr) (l cap : Nat) (hn : l ≤ 9223372036854775807) (w : World) :
    Calls Try.prog 17 #[.agg #[.int .i64 s, .int .i64 n, .slice p l cap], .int .i64 1048576] w fun e w' => e = .returned (.int .i64 (szR l 1048576)) ∧ Ex w w' := by
  have H := Lib.hid (fun w => sz_c p l cap 1048576 hn (by omega) (by omega) w)
  by_cases hs : l ≤ 1048576
  · have e1 : szR l 1048576 = 1048576 - l := szSmall hs
    rw [e1] at H ⊢
    go_enter Try.func17, Try.ntmps17
    go_wp2_with (go_at_call 34; refine (H.out _).mono ?_; rintro e w' ⟨rfl, x, rfl⟩)
    go_ret
    exact ⟨rfl, by repeat (first | exact Ex.refl _ | refine Ex.ext ?_ _ | refine Ex.alloc ?_ _ | refine Ex.drew ?_)⟩
  · have e1 : szR l 1048576 = -1 := szBig hs
    rw [e1] at H ⊢
    go_enter Try.func17, Try.ntmps17
    go_wp2_with (go_at_call 34; refine (H.out _).mono ?_; rintro e w' ⟨rfl, x, rfl⟩)
    go_ret
    exact ⟨rfl, by repeat (first | exact Ex.refl _ | refine Ex.ext ?_ _ | refine Ex.alloc ?_ _ | refine Ex.drew ?_)⟩

theorem toDeal_c (s n : Int) (cs : List C4) (p : Option Addr) (cap : Nat) (w : World) (hn : cs.length ≤ 2000000) (hz : Sl w p cs) :
    Calls Try.prog 19 #[.agg #[.int .i64 s, .int .i64 n, .slice p cs.length cap]] w fun e w' => ∃ g, e = .returned (.agg #[.int .i64 s, .int .i64 n, .slice (some ⟨g, 0, none⟩) cs.length cs.length]) ∧ Ex w w' ∧ Row w.heap.size w'.heap.size w' (some ⟨g, 0, none⟩) cs.length cs := by
  have Hz := Lib.hid hz
  clear hz
  go_enter Try.func19, Try.ntmps19
  go_wp2_with (go_at_call 36; refine (toA4S_o _ _ _ _ hn (Hz.out.ex (by repeat (first | exact Ex.refl _ | refine Ex.ext ?_ _ | refine Ex.alloc ?_ _ | refine Ex.drew ?_)))).mono ?_; rintro e w' ⟨g, rfl, ⟨x, rfl⟩, hr⟩; have Hr := Lib.hid hr; clear hr)
  refine bodyPost_ret (v := .agg #[.int .i64 s, .int .i64 n, .slice (some ⟨g, 0, none⟩) cs.length cs.length]) (by simp only [results, Try.results19]; go_simp) rfl ⟨g, rfl, by repeat (first | exact Ex.refl _ | refine Ex.ext ?_ _ | refine Ex.alloc ?_ _ | refine Ex.drew ?_), ?_⟩
  refine Row.mono (Hr.out.high ?_ ?_) ?_ ?_
  · simp
  · simp
  · simp; omega
  · simp [ext_size]
end Go.Proofs.Ytkelmfdbcicojaa
