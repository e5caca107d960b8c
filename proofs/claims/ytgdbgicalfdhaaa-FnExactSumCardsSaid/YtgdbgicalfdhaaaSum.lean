/- The walks of SumCards. -/
import Derived.Test.YtgdbgicalfdhaaaLawG
namespace Go.Proofs.Ytgdbgicalfdhaaa
set_option linter.unusedSimpArgs false
set_option linter.unusedVariables false
set_option maxHeartbeats 1000000
set_option maxRecDepth 100000
open Go.RowKit

def addC (s c : C4) : C4 := ⟨(s.a + c.a) % 3, (s.b + c.b) % 3, (s.c + c.c) % 3, (s.d + c.d) % 3⟩
def sumR (cs : List C4) : C4 := cs.foldl addC ⟨0, 0, 0, 0⟩
theorem ok_addC (s c : C4) : Ok (addC s c) := by
  constructor <;> simp only [addC] <;> omega
theorem ok_zero4 : Ok ⟨0, 0, 0, 0⟩ := by constructor <;> simp
theorem sumR_snoc (cs : List C4) (c : C4) : sumR (cs ++ [c]) = addC (sumR cs) c := by simp [sumR]
theorem ok_foldl (cs : List C4) : ∀ s, Ok s → Ok (cs.foldl addC s) := by
  induction cs with
  | nil => intro s h; exact h
  | cons c cs ih => intro s _; exact ih _ (ok_addC s c)
theorem ok_sumR (cs : List C4) : Ok (sumR cs) := ok_foldl cs _ ok_zero4

theorem l2Sum_c (cs : List C4) (p : Option Addr) (cap : Nat) (w : World) (hn : cs.length ≤ 1000000000000) (hok : ∀ z ∈ cs, Ok z) (hz : Sl w p cs) :
    Calls Try.prog 82 #[.slice p cs.length cap] w fun e w' => e = .returned (.agg #[.int .i64 (sumR cs).a, .int .i64 (sumR cs).b, .int .i64 (sumR cs).c, .int .i64 (sumR cs).d]) ∧ Ex w w' := by
  have Hok := Lib.hid hok
  have Hz := Lib.hid hz
  clear hok hz
  go_enter Try.func82, Try.ntmps82
  go_wp2
  go_loopw [4] (fun v wr => ∃ k : Nat, k ≤ cs.length ∧ v = .int .i64 k ∧ Ex ((w.alloc (.cells #[.int .i64 0, .int .i64 0, .int .i64 0, .int .i64 0] 22)).alloc (.cells #[.int .i64 (sumR (cs.take k)).a, .int .i64 (sumR (cs.take k)).b, .int .i64 (sumR (cs.take k)).c, .int .i64 (sumR (cs.take k)).d] 22)) wr) (fun v _ => cs.length - (intOf v).toNat)
  case atStart => exact ⟨0, Nat.zero_le _, rfl, Ex.refl _⟩
  case round =>
    obtain ⟨k, hk, rfl, ⟨x, rfl⟩⟩ := hrel
    by_cases hlt : k < cs.length
    · obtain ⟨b, o, rfl, hb, h1, h2, h3, h4⟩ := Hz.out k hlt
      have Hs := Lib.hid (show sumR (cs.take (k + 1)) = addC (sumR (cs.take k)) cs[k] by rw [List.take_succ_eq_append_getElem hlt, sumR_snoc])
      obtain ⟨s1, s2, s3, s4, s5, s6, s7, s8⟩ := ok_sumR (cs.take k)
      obtain ⟨z1, z2, z3, z4, z5, z6, z7, z8⟩ := Hok.out _ (List.getElem_mem hlt)
      generalize cs[k] = z at *
      generalize sumR (cs.take k) = s at *
      go_wp2
      refine wp_loop_rounds 5 ?_
      iterate 5 (all_goals (try rw [rounds_succ]); go_wp2_with (refine region_tail 13 (by kernel_rfl) (by kernel_rfl) ?_; simp only [List.take_succ_cons, List.take_zero, List.drop_succ_cons, List.drop_zero]; (repeat (go_big_quiet_step (fail))); refine wpQuiet_nil ?_; rintro _ ⟨x, rfl⟩))
      go_roundw
      case rel =>
        refine ⟨k + 1, by omega, by go_num, ?_⟩
        rw [Hs.out]
        exact by repeat (first | exact Ex.refl _ | refine Ex.ext ?_ _ | refine Ex.alloc ?_ _ | refine Ex.drew ?_)
      case measure => simp [intOf]; omega
    · have : k = cs.length := by omega
      subst this
      rw [List.take_length]
      go_wp2
      refine bodyPost_ret (v := .agg #[.int .i64 (sumR cs).a, .int .i64 (sumR cs).b, .int .i64 (sumR cs).c, .int .i64 (sumR cs).d]) (by simp only [results, Try.results82]; go_simp) rfl ⟨rfl, by repeat (first | exact Ex.refl _ | refine Ex.ext ?_ _ | refine Ex.alloc ?_ _ | refine Ex.drew ?_)⟩

theorem sum_c (cs : List C4) (p : Option Addr) (cap : Nat) (w : World) (hn : cs.length ≤ 1000000000000) (hok : ∀ z ∈ cs, Ok z) (hz : Sl w p cs) :
    Calls Try.prog 83 #[.slice p cs.length cap] w fun e w' => e = .returned (.agg #[.int .i64 (sumR cs).a, .int .i64 (sumR cs).b, .int .i64 (sumR cs).c, .int .i64 (sumR cs).d]) ∧ Ex w w' := by
  have Hok := Lib.hid hok
  have Hz := Lib.hid hz
  clear hok hz
  go_enter Try.func83, Try.ntmps83
  go_wp2
  go_loopw [11] (fun v wr => ∃ k : Nat, k ≤ cs.length ∧ v = .int .i64 k ∧ Ex ((w.alloc (.cells #[.int .i64 0, .int .i64 0, .int .i64 0, .int .i64 0] 22)).alloc (.cells #[.int .i64 (sumR (cs.take k)).a, .int .i64 (sumR (cs.take k)).b, .int .i64 (sumR (cs.take k)).c, .int .i64 (sumR (cs.take k)).d] 22)) wr) (fun v _ => cs.length - (intOf v).toNat)
  case atStart => exact ⟨0, Nat.zero_le _, rfl, Ex.refl _⟩
  case round =>
    obtain ⟨k, hk, rfl, ⟨x, rfl⟩⟩ := hrel
    by_cases hlt : k < cs.length
    · obtain ⟨b, o, rfl, hb, h1, h2, h3, h4⟩ := Hz.out k hlt
      have Hs := Lib.hid (show sumR (cs.take (k + 1)) = addC (sumR (cs.take k)) cs[k] by rw [List.take_succ_eq_append_getElem hlt, sumR_snoc])
      obtain ⟨s1, s2, s3, s4, s5, s6, s7, s8⟩ := ok_sumR (cs.take k)
      obtain ⟨z1, z2, z3, z4, z5, z6, z7, z8⟩ := Hok.out _ (List.getElem_mem hlt)
      generalize cs[k] = z at *
      generalize sumR (cs.take k) = s at *
      go_wp2
      refine wp_loop_rounds 5 ?_
      iterate 5 (all_goals (try rw [rounds_succ]); go_wp2)
      go_roundw
      case rel =>
        refine ⟨k + 1, by omega, by go_num, ?_⟩
        rw [Hs.out]
        exact by repeat (first | exact Ex.refl _ | refine Ex.ext ?_ _ | refine Ex.alloc ?_ _ | refine Ex.drew ?_)
      case measure => simp [intOf]; omega
    · have : k = cs.length := by omega
      subst this
      rw [List.take_length]
      go_wp2
      refine bodyPost_ret (v := .agg #[.int .i64 (sumR cs).a, .int .i64 (sumR cs).b, .int .i64 (sumR cs).c, .int .i64 (sumR cs).d]) (by simp only [results, Try.results83]; go_simp) rfl ⟨rfl, by repeat (first | exact Ex.refl _ | refine Ex.ext ?_ _ | refine Ex.alloc ?_ _ | refine Ex.drew ?_)⟩

def sumCR (cs : List C4) : C4 := if handB cs then sumR cs else ⟨0, 0, 0, 0⟩
theorem specSumCards_c (cs : List C4) (p : Option Addr) (cap : Nat) (w : World) (hn : cs.length ≤ 1000000000000) (hz : Sl w p cs) :
    Calls Try.prog 39 #[.slice p cs.length cap] w fun e w' => e = .returned (.tuple #[.agg #[.int .i64 (sumCR cs).a, .int .i64 (sumCR cs).b, .int .i64 (sumCR cs).c, .int .i64 (sumCR cs).d], .bool (handB cs)]) ∧ Ex w w' := by
  have Hz := Lib.hid hz
  clear hz
  cases h : handB cs
  · go_enter Try.func39, Try.ntmps39
    go_wp2_with (go_at_call 65; refine (l2Hand_c _ _ _ _ hn (Hz.out.ex (by repeat (first | exact Ex.refl _ | refine Ex.ext ?_ _ | refine Ex.alloc ?_ _ | refine Ex.drew ?_)))).mono ?_; rintro e w' ⟨rfl, x, rfl⟩; rw [h])
    refine bodyPost_ret (v := .tuple #[.agg #[.int .i64 (sumCR cs).a, .int .i64 (sumCR cs).b, .int .i64 (sumCR cs).c, .int .i64 (sumCR cs).d], .bool false]) (by simp only [results, Try.results39]; go_simp; simp [sumCR, *]) rfl ⟨rfl, by repeat (first | exact Ex.refl _ | refine Ex.ext ?_ _ | refine Ex.alloc ?_ _ | refine Ex.drew ?_)⟩
  · have Hh := Lib.hid (handB_ok h)
    go_enter Try.func39, Try.ntmps39
    go_wp2_with (first | (go_at_call 65; refine (l2Hand_c _ _ _ _ hn (Hz.out.ex (by repeat (first | exact Ex.refl _ | refine Ex.ext ?_ _ | refine Ex.alloc ?_ _ | refine Ex.drew ?_)))).mono ?_; rintro e w' ⟨rfl, x, rfl⟩; rw [h]) | (go_at_call 82; refine (l2Sum_c _ _ _ _ hn Hh.out.1 (Hz.out.ex (by repeat (first | exact Ex.refl _ | refine Ex.ext ?_ _ | refine Ex.alloc ?_ _ | refine Ex.drew ?_)))).mono ?_; rintro e w' ⟨rfl, x, rfl⟩))
    refine bodyPost_ret (v := .tuple #[.agg #[.int .i64 (sumCR cs).a, .int .i64 (sumCR cs).b, .int .i64 (sumCR cs).c, .int .i64 (sumCR cs).d], .bool true]) (by simp only [results, Try.results39]; go_simp; simp [sumCR, *]) rfl ⟨rfl, by repeat (first | exact Ex.refl _ | refine Ex.ext ?_ _ | refine Ex.alloc ?_ _ | refine Ex.drew ?_)⟩
theorem implSumCards_c (cs : List C4) (p : Option Addr) (cap : Nat) (w : World) (hn : cs.length ≤ 1000000000000) (hz : Sl w p cs) :
    Calls Try.prog 40 #[.slice p cs.length cap] w fun e w' => e = .returned (.tuple #[.agg #[.int .i64 (sumCR cs).a, .int .i64 (sumCR cs).b, .int .i64 (sumCR cs).c, .int .i64 (sumCR cs).d], .bool (handB cs)]) ∧ Ex w w' := by
  have Hz := Lib.hid hz
  clear hz
  cases h : handB cs
  · go_enter Try.func40, Try.ntmps40
    go_wp2_with (go_at_call 28; refine (implIsHand_c _ _ _ _ hn (Hz.out.ex (by repeat (first | exact Ex.refl _ | refine Ex.ext ?_ _ | refine Ex.alloc ?_ _ | refine Ex.drew ?_)))).mono ?_; rintro e w' ⟨rfl, x, rfl⟩; rw [h])
    refine bodyPost_ret (v := .tuple #[.agg #[.int .i64 (sumCR cs).a, .int .i64 (sumCR cs).b, .int .i64 (sumCR cs).c, .int .i64 (sumCR cs).d], .bool false]) (by simp only [results, Try.results40]; go_simp; simp [sumCR, *]) rfl ⟨rfl, by repeat (first | exact Ex.refl _ | refine Ex.ext ?_ _ | refine Ex.alloc ?_ _ | refine Ex.drew ?_)⟩
  · have Hh := Lib.hid (handB_ok h)
    go_enter Try.func40, Try.ntmps40
    go_wp2_with (first | (go_at_call 28; refine (implIsHand_c _ _ _ _ hn (Hz.out.ex (by repeat (first | exact Ex.refl _ | refine Ex.ext ?_ _ | refine Ex.alloc ?_ _ | refine Ex.drew ?_)))).mono ?_; rintro e w' ⟨rfl, x, rfl⟩; rw [h]) | (go_at_call 83; refine (sum_c _ _ _ _ hn Hh.out.1 (Hz.out.ex (by repeat (first | exact Ex.refl _ | refine Ex.ext ?_ _ | refine Ex.alloc ?_ _ | refine Ex.drew ?_)))).mono ?_; rintro e w' ⟨rfl, x, rfl⟩))
    refine bodyPost_ret (v := .tuple #[.agg #[.int .i64 (sumCR cs).a, .int .i64 (sumCR cs).b, .int .i64 (sumCR cs).c, .int .i64 (sumCR cs).d], .bool true]) (by simp only [results, Try.results40]; go_simp; simp [sumCR, *]) rfl ⟨rfl, by repeat (first | exact Ex.refl _ | refine Ex.ext ?_ _ | refine Ex.alloc ?_ _ | refine Ex.drew ?_)⟩

theorem fnExactSumCards_walk (w : World) (p : Option Addr) (cs : List C4) (cap : Nat) (hl : cs.length ≤ maxLen) (hz : Sl w p cs) : Calls Try.prog 10 #[.slice p cs.length cap] w fun e w' => e = .returned (.bool true) ∧ Below w.heap.size w w' := by
  unfold maxLen at hl
  have Hz := Lib.hid hz
  clear hz
  by_cases hs : cs.length ≤ 1048576
  · have h3 : ¬ ((1048576 : Int) - cs.length < 0) := by omega
    go_enter Try.func10, Try.ntmps10
    go_wp2_with (go_at_call 23; refine (sz_c _ _ _ _ (by omega) (by omega) (by omega) _).mono ?_; rintro e w1 ⟨rfl, hx1⟩; rw [szSmall hs])
    go_wp2_with (go_at_call 25; refine (toA4S_o _ _ _ _ (by omega) (Hz.out.ex (by repeat (first | exact Ex.refl _ | assumption | refine Ex.ext ?_ _ | refine Ex.alloc ?_ _ | refine Ex.drew ?_ | refine Ex.trans ?_ (by assumption))))).mono ?_; rintro e w2 ⟨g, rfl, hx2, hr⟩)
    go_wp2_with (go_at_call 39; refine (specSumCards_c _ _ _ _ (by omega) hr.sl).mono ?_; rintro e w3 ⟨rfl, hx3⟩; clear hr)
    go_wp2_with (go_at_call 25; refine (toA4S_o _ _ _ _ (by omega) (Hz.out.ex (by repeat (first | exact Ex.refl _ | assumption | refine Ex.ext ?_ _ | refine Ex.alloc ?_ _ | refine Ex.drew ?_ | refine Ex.trans ?_ (by assumption))))).mono ?_; rintro e w4 ⟨g1, rfl, hx4, hr1⟩)
    go_wp2_with (go_at_call 40; refine (implSumCards_c _ _ _ _ (by omega) hr1.sl).mono ?_; rintro e w5 ⟨rfl, hx5⟩; obtain ⟨b0, b1, b2, b3, b4⟩ := (Box4.new w3 _ _ _ _).ex (show Ex _ w5 from (by repeat (first | exact Ex.refl _ | assumption | refine Ex.ext ?_ _ | refine Ex.alloc ?_ _ | refine Ex.drew ?_ | refine Ex.trans ?_ (by assumption)))))
    have hc := ceq_self (sumCR cs)
    go_wp2_with (go_at_call 41; refine (eqA4_c _ _ _).mono ?_; rintro e w6 ⟨rfl, hx6⟩)
    go_wp2_with (go_at_call 25; refine (toA4S_o _ _ _ _ (by omega) (Hz.out.ex (by repeat (first | exact Ex.refl _ | assumption | refine Ex.ext ?_ _ | refine Ex.alloc ?_ _ | refine Ex.drew ?_ | refine Ex.trans ?_ (by assumption))))).mono ?_; rintro e w7 ⟨g2, rfl, hx7, hr2⟩)
    go_wp2_with (go_at_call 20; refine (eqA4S_c _ _ _ _ _ _ _ (by omega) (by omega) (hr1.sl.ex (by repeat (first | exact Ex.refl _ | assumption | refine Ex.ext ?_ _ | refine Ex.alloc ?_ _ | refine Ex.drew ?_ | refine Ex.trans ?_ (by assumption)))) hr2.sl).mono ?_; rintro e w8 ⟨rfl, hx8⟩)
    go_ret
    exact ⟨rfl, Ex.below (by repeat (first | exact Ex.refl _ | assumption | refine Ex.ext ?_ _ | refine Ex.alloc ?_ _ | refine Ex.drew ?_ | refine Ex.trans ?_ (by assumption)))⟩
  · go_enter Try.func10, Try.ntmps10
    go_wp2_with (go_at_call 23; refine (sz_c _ _ _ _ (by omega) (by omega) (by omega) _).mono ?_; rintro e w1 ⟨rfl, hx1⟩; rw [szBig hs])
    go_ret
    exact ⟨rfl, Ex.below (by repeat (first | exact Ex.refl _ | assumption | refine Ex.ext ?_ _ | refine Ex.alloc ?_ _ | refine Ex.drew ?_ | refine Ex.trans ?_ (by assumption)))⟩
end Go.Proofs.Ytgdbgicalfdhaaa
