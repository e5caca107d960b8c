/- The walks of AnchorsOf, BlockedCards, FreeCards, and what they call. -/
import Derived.Test.YtnjfkgggebhelaaLinesP
import Derived.Test.YtnjfkgggebhelaaInts
namespace Go.Proofs.Ytnjfkgggebhelaa
set_option linter.unusedSimpArgs false
set_option linter.unusedVariables false
set_option maxHeartbeats 1000000
set_option maxRecDepth 100000
open Go.RowKit

/-- The numbers below 'n' that pass. -/
def sel (f : Nat → Bool) (n : Nat) : List Int := ((List.range n).filter f).map fun (i : Nat) => (i : Int)
theorem sel_len (f : Nat → Bool) (n : Nat) : (sel f n).length ≤ n := by
  unfold sel
  have := List.length_filter_le f (List.range n)
  simp at this ⊢
  exact this
theorem sel_zero (f : Nat → Bool) : sel f 0 = [] := rfl
theorem sel_yes {f : Nat → Bool} {n : Nat} (h : f n = true) : sel f (n + 1) = sel f n ++ [(n : Int)] := by
  simp [sel, List.range_succ, List.filter_append, h]
theorem sel_no {f : Nat → Bool} {n : Nat} (h : f n = false) : sel f (n + 1) = sel f n := by
  simp [sel, List.range_succ, List.filter_append, h]

theorem third_comm (a b : C4) : third a b = third b a := by
  simp only [third, C4.mk.injEq]
  refine ⟨?_, ?_, ?_, ?_⟩ <;> congr 1 <;> omega

def goodAn (cs : List C4) (a z : C4) : Bool := !ceq z a && hasB cs (third a z)
def anchorB (cs : List C4) (a : C4) : Bool := cs.all (goodAn cs a)
theorem all_take_succ {f : C4 → Bool} {cs : List C4} {k : Nat} (h : k < cs.length) (h1 : (cs.take k).all f = true) (h2 : f cs[k] = true) : (cs.take (k + 1)).all f = true := by
  rw [List.take_succ_eq_append_getElem h, List.all_append, h1]; simp [h2]
theorem all_no {f : C4 → Bool} {cs : List C4} {k : Nat} (h : k < cs.length) (h2 : f cs[k] = false) : cs.all f = false := by
  rw [List.all_eq_false]; exact ⟨cs[k], List.getElem_mem h, by simp [h2]⟩

def anB (cs : List C4) : Bool := handB cs && decide (0 < cs.length)
def anF (cs : List C4) (n : Nat) : Bool := anchorB cs (at_ (n : Int))
def anR (cs : List C4) : List Int := if anB cs then sel (anF cs) 81 else []
theorem anR_len (cs : List C4) : (anR cs).length ≤ 81 := by
  unfold anR; split
  · exact sel_len _ _
  · simp

theorem isBlocked_c (cs : List C4) (c : C4) (p : Option Addr) (cap : Nat) (w : World) (hn : cs.length ≤ 1000) (hok : ∀ z ∈ cs, Ok z) (hz : Sl w p cs) :
    Calls Try.prog 58 #[.slice p cs.length cap, .agg #[.int .i64 c.a, .int .i64 c.b, .int .i64 c.c, .int .i64 c.d]] w fun e w' => e = .returned (.bool (decide (0 < through cs c))) ∧ Ex w w' := by
  have H := Lib.hid (fun o => pairsFor_c cs c p cap _ hn hok (hz.alloc o))
  have Hb := pairs_small (c := c) hn
  clear hz
  have hb : through cs c ≤ 1000000 := Hb
  clear Hb
  obtain ⟨n, hN⟩ : ∃ n, n = through cs c := ⟨_, rfl⟩
  rw [← hN] at hb ⊢
  have HN := Lib.hid hN
  clear hN
  by_cases h0 : 0 < n
  all_goals
    have h0' := h0
    first | have h1 : (0 : Int) < (n : Int) := (by omega) | have h1 : n = 0 := (by omega)
    go_enter Try.func58, Try.ntmps58
    go_wp2_with (go_at_call 93; refine (H.out _).mono ?_; rw [← HN.out]; rintro e w' ⟨g, cap', rfl, ⟨x, rfl⟩, _⟩)
    go_ret
    exact ⟨ret_bool (by simp; try omega), by repeat (first | exact Ex.refl _ | refine Ex.ext ?_ _ | refine Ex.alloc ?_ _ | refine Ex.drew ?_)⟩

def outF (cs : List C4) (b : Bool) (n : Nat) : Bool := !hasB cs (at_ (n : Int)) && (decide (0 < through cs (at_ (n : Int))) == b)

theorem l3Cards_c (cs : List C4) (bl : Bool) (p : Option Addr) (cap : Nat) (w : World) (hn : cs.length ≤ 1000) (hok : ∀ z ∈ cs, Ok z) (hz : Sl w p cs) :
    Calls Try.prog 55 #[.slice p cs.length cap, .bool bl] w fun e w' => ∃ g cap', e = .returned (.slice (some ⟨g, 0, none⟩) (sel (outF cs bl) 81).length cap') ∧ Ex w w' ∧ RowV 3 1 w.heap.size w' g cap' (sel (outF cs bl) 81).length (intVals (sel (outF cs bl) 81)) := by
  have Hz := Lib.hid hz
  have Hok := Lib.hid hok
  clear hz hok
  have row0 := Lib.hid (RowV.start w 3 1)
  go_enter Try.func55, Try.ntmps55
  go_wp2
  go_loopw [5, 6] (fun u i wr => ∃ (k : Nat) (g cap' : Nat), k ≤ 81 ∧ i = .int .i64 k ∧ u = .slice (some ⟨g, 0, none⟩) (sel (outF cs bl) k).length cap' ∧ Ex w wr ∧
    RowV 3 1 w.heap.size wr g cap' (sel (outF cs bl) k).length (intVals (sel (outF cs bl) k))) (fun _ i _ => 81 - (intOf i).toNat)
  case atStart => exact ⟨0, w.heap.size, 0, Nat.zero_le _, rfl, rfl, by repeat (first | exact Ex.refl _ | refine Ex.ext ?_ _ | refine Ex.alloc ?_ _ | refine Ex.drew ?_), row0.out.ex (by exact by repeat (first | exact Ex.refl _ | refine Ex.ext ?_ _ | refine Ex.alloc ?_ _ | refine Ex.drew ?_))⟩
  case round =>
    obtain ⟨k, g, cap', hk, rfl, rfl, hE, hrow⟩ := hrel
    have HE := Lib.hid hE
    have HR := Lib.hid hrow
    clear hE hrow
    by_cases hlt : k < 81
    · have hbd := sel_len (outF cs bl) k
      have Hy := Lib.hid (fun h => sel_yes (f := outF cs bl) (n := k) h)
      have Hn := Lib.hid (fun h => sel_no (f := outF cs bl) (n := k) h)
      have Hf := Lib.hid (show outF cs bl k = (!hasB cs (at_ (k : Int)) && (decide (0 < through cs (at_ (k : Int))) == bl)) from rfl)
      generalize hN : (sel (outF cs bl) k).length = N at *
      have HN := Lib.hid hN
      clear hN
      cases h1 : hasB cs (at_ (k : Int))
      · have h2b : through cs (at_ (k : Int)) ≤ 1000000 := pairs_small hn
        have Ht := Lib.hid (show through cs (at_ (k : Int)) = through cs (at_ (k : Int)) from rfl)
        obtain ⟨t, ht⟩ : ∃ t, through cs (at_ (k : Int)) = t := ⟨_, rfl⟩
        rw [ht] at h2b
        by_cases h2 : 0 < t
        all_goals cases bl
        all_goals first | have h3 : (0 : Int) < (t : Int) := (by omega) | (have h3 : t = 0 := (by omega); subst h3)
        all_goals
          go_wp2_with (first | (go_at_call 56; refine (l2At_c _ (by omega) (by omega) _).mono ?_; rintro e w' ⟨rfl, x, rfl⟩) | (go_at_call 46; refine (l2Has_c _ _ _ _ _ (by omega) (Hz.out.ex (HE.out.trans (by exact by repeat (first | exact Ex.refl _ | refine Ex.ext ?_ _ | refine Ex.alloc ?_ _ | refine Ex.drew ?_))))).mono ?_; rintro e w' ⟨rfl, x, rfl⟩; rw [h1]) | (go_at_call 92; refine (l2Through_c _ _ _ _ _ hn Hok.out (Hz.out.ex (HE.out.trans (by exact by repeat (first | exact Ex.refl _ | refine Ex.ext ?_ _ | refine Ex.alloc ?_ _ | refine Ex.drew ?_))))).mono ?_; rw [ht]; rintro e w' ⟨rfl, x, rfl⟩) |
              (at_builtin; refine wp_app rowInt (nW := _) (by simp [go_sem]) rfl _ _ rfl rfl (HR.out.ex (by exact by repeat (first | exact Ex.refl _ | refine Ex.ext ?_ _ | refine Ex.alloc ?_ _ | refine Ex.drew ?_))) 1 1 [.int .i64 k] rfl rfl (one1 _) (by omega) ?c2 ?c3 ?_; (case c2 => (unfold maxLen; omega)); (case c3 => omega); intro g' cap'' wq hrow' hK hg'))
          go_roundw
          case rel =>
            (try ((repeat apply Exists.intro); refine ⟨?_, rfl⟩))
            first
              | (have hgb := HR.out.blk
                 have hff := Hf.out
                 rw [h1, ht] at hff
                 refine ⟨k + 1, g', cap'', by omega, by go_num, by rw [Hy.out (by rw [hff]; simp [*])]; simp [HN.out], Keeps.ex (HE.out.trans (by exact by repeat (first | exact Ex.refl _ | refine Ex.ext ?_ _ | refine Ex.alloc ?_ _ | refine Ex.drew ?_))) hK (by omega), ?_⟩
                 rw [Hy.out (by rw [hff]; simp [*]), intVals_append, List.length_append, HN.out]; exact hrow')
              | (have hff := Hf.out
                 rw [h1, ht] at hff
                 refine ⟨k + 1, g, cap', by omega, by go_num, by rw [Hn.out (by rw [hff]; simp [*]), HN.out], HE.out.trans (by exact by repeat (first | exact Ex.refl _ | refine Ex.ext ?_ _ | refine Ex.alloc ?_ _ | refine Ex.drew ?_)), ?_⟩
                 rw [Hn.out (by rw [hff]; simp [*]), HN.out]; exact HR.out.ex (by exact by repeat (first | exact Ex.refl _ | refine Ex.ext ?_ _ | refine Ex.alloc ?_ _ | refine Ex.drew ?_)))
          case measure => simp [intOf]; omega
      · go_wp2_with (first | (go_at_call 56; refine (l2At_c _ (by omega) (by omega) _).mono ?_; rintro e w' ⟨rfl, x, rfl⟩) | (go_at_call 46; refine (l2Has_c _ _ _ _ _ (by omega) (Hz.out.ex (HE.out.trans (by exact by repeat (first | exact Ex.refl _ | refine Ex.ext ?_ _ | refine Ex.alloc ?_ _ | refine Ex.drew ?_))))).mono ?_; rintro e w' ⟨rfl, x, rfl⟩; rw [h1]))
        go_roundw
        case rel =>
          (try ((repeat apply Exists.intro); refine ⟨?_, rfl⟩))
          refine ⟨k + 1, g, cap', by omega, by go_num, by rw [Hn.out (by rw [Hf.out, h1]; rfl), HN.out], HE.out.trans (by exact by repeat (first | exact Ex.refl _ | refine Ex.ext ?_ _ | refine Ex.alloc ?_ _ | refine Ex.drew ?_)), ?_⟩
          rw [Hn.out (by rw [Hf.out, h1]; rfl), HN.out]; exact HR.out.ex (by exact by repeat (first | exact Ex.refl _ | refine Ex.ext ?_ _ | refine Ex.alloc ?_ _ | refine Ex.drew ?_))
        case measure => simp [intOf]; omega
    · have : k = 81 := by omega
      subst this
      go_wp2
      go_ret
      exact ⟨g, cap', rfl, HE.out, HR.out⟩

end Go.Proofs.Ytnjfkgggebhelaa
