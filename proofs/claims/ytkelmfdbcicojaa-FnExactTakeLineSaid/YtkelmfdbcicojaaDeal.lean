/- The walks of NewDeal, of the laws' helpers on deals, and of the law on NewDeal. -/
import Derived.Test.YtkelmfdbcicojaaOwn
import Derived.Test.YtkelmfdbcicojaaPileL
namespace Go.Proofs.Ytkelmfdbcicojaa
set_option linter.unusedSimpArgs false
set_option linter.unusedVariables false
set_option maxHeartbeats 1000000
set_option maxRecDepth 100000
open Go.RowKit

theorem Sl.take {w : World} {p : Option Addr} {cs : List C4} (h : Sl w p cs) (n : Nat) : Sl w p (cs.take n) := fun i hi => by
  have hi' : i < cs.length := by simp at hi; omega
  have := h i hi'
  rw [List.getElem_take]
  exact this

def ndS (s : Int) : Int := if isSeed s then s else 0
def ndN (s : Int) : Int := if isSeed s then 12 else 0
def ndL (s : Int) : List C4 := if isSeed s then (pileR s).take 12 else []
theorem take12 (s : Int) : ((pileR s).take 12).length = 12 := by rw [List.length_take, pileR_length]; rfl
theorem ndL_len (s : Int) : (ndL s).length ≤ 12 := by
  unfold ndL; split
  · rw [take12]; omega
  · simp

theorem Row.keeps {lo hi cap b : Nat} {w w' : World} {p : Option Addr} {cs : List C4} (h : Row lo hi w p cap cs) (k : Keeps b w w') (hb : b < lo) : Row lo hi w' p cap cs := by
  refine ⟨⟨h.own.1, ?_⟩, h.top⟩
  rcases h.own.2 with h1 | ⟨g, cap', cur, h1, h2, h3, h4⟩
  · exact Or.inl h1
  · have hw : g < w.heap.size := (Array.getElem?_eq_some_iff.1 h3).1
    exact Or.inr ⟨g, cap', cur, h1, h2, by rw [k.block g hw (by omega)]; exact h3, h4⟩
theorem ext_alloc_keeps (w : World) (o o' : Obj) (x : Ext) : Keeps w.heap.size (ext (w.alloc o) x) (ext (w.alloc o') x) := by
  refine ⟨rfl, rfl, rfl, by simp [ext_size], fun k hk hne => ?_⟩
  simp only [ext, World.alloc, Array.getElem?_append, Array.size_push, Array.getElem?_push]
  split
  all_goals first | rfl | rw [if_neg hne, if_neg hne]

theorem specNewDeal_c (s : Int) (w : World) : Calls Try.prog 79 #[.int .i64 s] w fun e w' => ∃ p cap, e = .returned (.tuple #[.agg #[.int .i64 (ndS s), .int .i64 (ndN s), .slice p (ndL s).length cap], .bool (isSeed s)]) ∧ Ex w w' ∧ Row w.heap.size w'.heap.size w' p cap (ndL s) := by
  cases h : isSeed s
  · go_enter Try.func79, Try.ntmps79
    go_wp2_with (go_at_call 105; refine (l4Seed_c _ _).mono ?_; rintro e w' ⟨rfl, x, rfl⟩; rw [h])
    refine bodyPost_ret (v := .tuple #[.agg #[.int .i64 (ndS s), .int .i64 (ndN s), .slice none (ndL s).length 0], .bool false]) (by simp only [results, Try.results79]; go_simp; simp [ndS, ndN, ndL, h]) rfl ⟨none, 0, rfl, by repeat (first | exact Ex.refl _ | refine Ex.ext ?_ _ | refine Ex.alloc ?_ _ | refine Ex.drew ?_), ?_⟩
    simp only [ndL, h]
    exact Row.nil _ _ _
  · have hb := isSeed_bd h
    have e12 := take12 s
    go_enter Try.func79, Try.ntmps79
    go_wp2_with (first | (go_at_call 105; refine (l4Seed_c _ _).mono ?_; rintro e w' ⟨rfl, x, rfl⟩; rw [h]) | (go_at_call 106; refine (l4Pile_c _ hb.1 hb.2 _).mono ?_; rintro e w1 ⟨g, cap, rfl, ⟨y, rfl⟩, hr⟩; rw [ext_ext] at hr; have hcap : 81 ≤ cap := hr.lens.1; have hcap1 : (12 : Int) ≤ (cap : Int) := (by omega); have hcap2 : 12 ≤ cap := (by omega); have Hr := Lib.hid hr; clear hr) |
      (go_at_call 110; have ho := l2Own_c ((pileR s).take 12) g 0 cap _ (by rw [e12]; omega) ((Hr.out.row (pileR_length s).symm).sl.take 12); rw [e12] at ho; refine ho.mono ?_; rintro e w2 ⟨p, cap', rfl, ⟨y2, rfl⟩, hr2⟩; simp only [ext_ext, Ext.app_assoc] at hr2; have Hr2 := Lib.hid hr2; clear hr2 ho))
    refine bodyPost_ret (v := .tuple #[.agg #[.int .i64 (ndS s), .int .i64 (ndN s), .slice p (ndL s).length cap'], .bool true]) (by simp only [results, Try.results79]; go_simp; simp [ndS, ndN, ndL, h, e12]) rfl ⟨p, cap', rfl, by repeat (first | exact Ex.refl _ | refine Ex.ext ?_ _ | refine Ex.alloc ?_ _ | refine Ex.drew ?_), ?_⟩
    have hl : ndL s = (pileR s).take 12 := by simp [ndL, h]
    rw [hl]
    refine Row.mono (Hr2.out.keeps (ext_alloc_keeps w _ _ _) ?_) ?_ ?_
    · simp [ext_size]; omega
    · simp [ext_size]; omega
    · simp [ext_size]
end Go.Proofs.Ytkelmfdbcicojaa
