/- The walks of the exported functions on single cards. -/
import Derived.Test.YtfpnbcaleagijaaCard2
namespace Go.Proofs.Ytfpnbcaleagijaa
set_option linter.unusedSimpArgs false
set_option linter.unusedVariables false
set_option maxHeartbeats 1000000
open Go.RowKit

def zero4 : C4 := ⟨0, 0, 0, 0⟩
def numberR (c : C4) : Int := if ok c then num c else 0
def atR (n : Int) : C4 := if inR n 0 80 then at_ n else zero4
def thirdB (a b : C4) : Bool := ok a && ok b && !ceq a b
def thirdR (a b : C4) : C4 := if thirdB a b then third a b else zero4
def lineOk (a b c : C4) : Bool := ok a && ok b && ok c
def lineR (a b c : C4) : Bool := lineOk a b c && lineB a b c
def kindB (a b c : C4) : Bool := ok a && ok b && ok c && lineB a b c
def kindR (a b c : C4) : Int := if kindB a b c then differ a b else 0
def differB (a b : C4) : Bool := ok a && ok b
def differR (a b : C4) : Int := if differB a b then differ a b else 0
def nextR (s : Int) : Int := if isSeed s then behind s else 0

theorem specCardNumber_c (c : C4) (w : World) : Calls Try.prog 27 #[.agg #[.int .i64 c.a, .int .i64 c.b, .int .i64 c.c, .int .i64 c.d]] w fun e w' => e = .returned (.tuple #[.int .i64 (numberR c), .bool (ok c)]) ∧ Ex w w' := by
  by_cases h : ok c = true
  · go_enter Try.func27, Try.ntmps27
    go_wp2_with (first | (go_at_call 54; refine (l2Card_c _ _).mono ?_; rintro e w' ⟨rfl, x, rfl⟩) | (go_at_call 56; refine (l2Number_c _ ((ok_iff _).1 h) _).mono ?_; rintro e w' ⟨rfl, x, rfl⟩))
    go_ret2
    exact ⟨by simp [numberR, h], by repeat (first | exact Ex.refl _ | refine Ex.ext ?_ _ | refine Ex.alloc ?_ _ | refine Ex.drew ?_)⟩
  · have h : ok c = false := by simpa using h
    go_enter Try.func27, Try.ntmps27
    go_wp2_with (first | (go_at_call 54; refine (l2Card_c _ _).mono ?_; rintro e w' ⟨rfl, x, rfl⟩))
    go_ret2
    exact ⟨by simp [numberR, h], by repeat (first | exact Ex.refl _ | refine Ex.ext ?_ _ | refine Ex.alloc ?_ _ | refine Ex.drew ?_)⟩

theorem implCardNumber_c (c : C4) (w : World) : Calls Try.prog 28 #[.agg #[.int .i64 c.a, .int .i64 c.b, .int .i64 c.c, .int .i64 c.d]] w fun e w' => e = .returned (.tuple #[.int .i64 (numberR c), .bool (ok c)]) ∧ Ex w w' := by
  by_cases h : ok c = true
  · go_enter Try.func28, Try.ntmps28
    go_wp2_with (first | (go_at_call 26; refine (implIsCard_c _ _).mono ?_; rintro e w' ⟨rfl, x, rfl⟩) | (go_at_call 57; refine (number_c _ ((ok_iff _).1 h) _).mono ?_; rintro e w' ⟨rfl, x, rfl⟩))
    go_ret2
    exact ⟨by simp [numberR, h], by repeat (first | exact Ex.refl _ | refine Ex.ext ?_ _ | refine Ex.alloc ?_ _ | refine Ex.drew ?_)⟩
  · have h : ok c = false := by simpa using h
    go_enter Try.func28, Try.ntmps28
    go_wp2_with (first | (go_at_call 26; refine (implIsCard_c _ _).mono ?_; rintro e w' ⟨rfl, x, rfl⟩))
    go_ret2
    exact ⟨by simp [numberR, h], by repeat (first | exact Ex.refl _ | refine Ex.ext ?_ _ | refine Ex.alloc ?_ _ | refine Ex.drew ?_)⟩


theorem specCardAt_c (n : Int) (w : World) : Calls Try.prog 19 #[.int .i64 n] w fun e w' => e = .returned (.tuple #[.agg #[.int .i64 (atR n).a, .int .i64 (atR n).b, .int .i64 (atR n).c, .int .i64 (atR n).d], .bool (inR n 0 80)]) ∧ Ex w w' := by
  by_cases h : inR n 0 80 = true
  · have hb := (inR_iff _ _ _).1 h
    go_enter Try.func19, Try.ntmps19
    go_wp2_with (first | (go_at_call 48; refine (l1In_c _ _ _ _).mono ?_; rintro e w' ⟨rfl, x, rfl⟩) | (go_at_call 49; refine (l2At_c _ hb.1 hb.2 _).mono ?_; rintro e w' ⟨rfl, x, rfl⟩))
    refine bodyPost_ret (v := .tuple #[.agg #[.int .i64 (atR n).a, .int .i64 (atR n).b, .int .i64 (atR n).c, .int .i64 (atR n).d], .bool (inR n 0 80)]) (by simp only [results, Try.results19]; go_simp; simp [atR, *]) rfl ⟨rfl, by repeat (first | exact Ex.refl _ | refine Ex.ext ?_ _ | refine Ex.alloc ?_ _ | refine Ex.drew ?_)⟩
  · have h : inR n 0 80 = false := by simpa using h
    go_enter Try.func19, Try.ntmps19
    go_wp2_with (first | (go_at_call 48; refine (l1In_c _ _ _ _).mono ?_; rintro e w' ⟨rfl, x, rfl⟩))
    refine bodyPost_ret (v := .tuple #[.agg #[.int .i64 (atR n).a, .int .i64 (atR n).b, .int .i64 (atR n).c, .int .i64 (atR n).d], .bool (inR n 0 80)]) (by simp only [results, Try.results19]; go_simp; simp [atR, zero4, *]) rfl ⟨rfl, by repeat (first | exact Ex.refl _ | refine Ex.ext ?_ _ | refine Ex.alloc ?_ _ | refine Ex.drew ?_)⟩

theorem implCardAt_c (n : Int) (w : World) : Calls Try.prog 20 #[.int .i64 n] w fun e w' => e = .returned (.tuple #[.agg #[.int .i64 (atR n).a, .int .i64 (atR n).b, .int .i64 (atR n).c, .int .i64 (atR n).d], .bool (inR n 0 80)]) ∧ Ex w w' := by
  by_cases h : inR n 0 80 = true
  · have hb := (inR_iff _ _ _).1 h
    go_enter Try.func20, Try.ntmps20
    go_wp2_with (first | (go_at_call 50; refine (within_c _ _ _ _).mono ?_; rintro e w' ⟨rfl, x, rfl⟩) | (go_at_call 51; refine (card_c _ hb.1 hb.2 _).mono ?_; rintro e w' ⟨rfl, x, rfl⟩))
    refine bodyPost_ret (v := .tuple #[.agg #[.int .i64 (atR n).a, .int .i64 (atR n).b, .int .i64 (atR n).c, .int .i64 (atR n).d], .bool (inR n 0 80)]) (by simp only [results, Try.results20]; go_simp; simp [atR, *]) rfl ⟨rfl, by repeat (first | exact Ex.refl _ | refine Ex.ext ?_ _ | refine Ex.alloc ?_ _ | refine Ex.drew ?_)⟩
  · have h : inR n 0 80 = false := by simpa using h
    go_enter Try.func20, Try.ntmps20
    go_wp2_with (first | (go_at_call 50; refine (within_c _ _ _ _).mono ?_; rintro e w' ⟨rfl, x, rfl⟩))
    refine bodyPost_ret (v := .tuple #[.agg #[.int .i64 (atR n).a, .int .i64 (atR n).b, .int .i64 (atR n).c, .int .i64 (atR n).d], .bool (inR n 0 80)]) (by simp only [results, Try.results20]; go_simp; simp [atR, zero4, *]) rfl ⟨rfl, by repeat (first | exact Ex.refl _ | refine Ex.ext ?_ _ | refine Ex.alloc ?_ _ | refine Ex.drew ?_)⟩

theorem specThirdCard_c (a b : C4) (w : World) : Calls Try.prog 40 #[.agg #[.int .i64 a.a, .int .i64 a.b, .int .i64 a.c, .int .i64 a.d], .agg #[.int .i64 b.a, .int .i64 b.b, .int .i64 b.c, .int .i64 b.d]] w fun e w' => e = .returned (.tuple #[.agg #[.int .i64 (thirdR a b).a, .int .i64 (thirdR a b).b, .int .i64 (thirdR a b).c, .int .i64 (thirdR a b).d], .bool (thirdB a b)]) ∧ Ex w w' := by
  cases ha : ok a
  all_goals cases hb : ok b
  all_goals cases hc : ceq a b
  all_goals
    go_enter Try.func40, Try.ntmps40
    go_wp2_with (first | (go_at_call 54; refine (l2Card_c _ _).mono ?_; rintro e w' ⟨rfl, x, rfl⟩) | (go_at_call 70; refine (l2Third_c _ _ ((ok_iff _).1 ha) ((ok_iff _).1 hb) _).mono ?_; rintro e w' ⟨rfl, x, rfl⟩))
    refine bodyPost_ret (v := .tuple #[.agg #[.int .i64 (thirdR a b).a, .int .i64 (thirdR a b).b, .int .i64 (thirdR a b).c, .int .i64 (thirdR a b).d], .bool (thirdB a b)]) (by simp only [results, Try.results40]; go_simp; simp [thirdR, thirdB, zero4, *]) rfl ⟨rfl, by repeat (first | exact Ex.refl _ | refine Ex.ext ?_ _ | refine Ex.alloc ?_ _ | refine Ex.drew ?_)⟩

theorem implThirdCard_c (a b : C4) (w : World) : Calls Try.prog 41 #[.agg #[.int .i64 a.a, .int .i64 a.b, .int .i64 a.c, .int .i64 a.d], .agg #[.int .i64 b.a, .int .i64 b.b, .int .i64 b.c, .int .i64 b.d]] w fun e w' => e = .returned (.tuple #[.agg #[.int .i64 (thirdR a b).a, .int .i64 (thirdR a b).b, .int .i64 (thirdR a b).c, .int .i64 (thirdR a b).d], .bool (thirdB a b)]) ∧ Ex w w' := by
  cases ha : ok a
  all_goals cases hb : ok b
  all_goals cases hc : ceq a b
  all_goals
    go_enter Try.func41, Try.ntmps41
    go_wp2_with (first | (go_at_call 26; refine (implIsCard_c _ _).mono ?_; rintro e w' ⟨rfl, x, rfl⟩) | (go_at_call 71; refine (third_c _ _ ((ok_iff _).1 ha) ((ok_iff _).1 hb) _).mono ?_; rintro e w' ⟨rfl, x, rfl⟩))
    refine bodyPost_ret (v := .tuple #[.agg #[.int .i64 (thirdR a b).a, .int .i64 (thirdR a b).b, .int .i64 (thirdR a b).c, .int .i64 (thirdR a b).d], .bool (thirdB a b)]) (by simp only [results, Try.results41]; go_simp; simp [thirdR, thirdB, zero4, *]) rfl ⟨rfl, by repeat (first | exact Ex.refl _ | refine Ex.ext ?_ _ | refine Ex.alloc ?_ _ | refine Ex.drew ?_)⟩

theorem specIsLine_c (a b c : C4) (w : World) : Calls Try.prog 36 #[.agg #[.int .i64 a.a, .int .i64 a.b, .int .i64 a.c, .int .i64 a.d], .agg #[.int .i64 b.a, .int .i64 b.b, .int .i64 b.c, .int .i64 b.d], .agg #[.int .i64 c.a, .int .i64 c.b, .int .i64 c.c, .int .i64 c.d]] w fun e w' => e = .returned (.tuple #[.bool (lineR a b c), .bool (lineOk a b c)]) ∧ Ex w w' := by
  cases ha : ok a
  all_goals cases hb : ok b
  all_goals cases hc : ok c
  all_goals
    go_enter Try.func36, Try.ntmps36
    go_wp2_with (first | (go_at_call 54; refine (l2Card_c _ _).mono ?_; rintro e w' ⟨rfl, x, rfl⟩) | (go_at_call 65; refine (l2Line_c _ _ _ ((ok_iff _).1 ha) ((ok_iff _).1 hb) _).mono ?_; rintro e w' ⟨rfl, x, rfl⟩))
    go_ret2
    exact ⟨by simp [lineR, lineOk, *], by repeat (first | exact Ex.refl _ | refine Ex.ext ?_ _ | refine Ex.alloc ?_ _ | refine Ex.drew ?_)⟩

theorem sl3 (a b c : C4) (w : World) : Sl (w.alloc (.cells #[.int .i64 a.a, .int .i64 a.b, .int .i64 a.c, .int .i64 a.d, .int .i64 b.a, .int .i64 b.b, .int .i64 b.c, .int .i64 b.d, .int .i64 c.a, .int .i64 c.b, .int .i64 c.c, .int .i64 c.d] 27)) (some ⟨w.heap.size, 0, none⟩) [a, b, c] := by
  intro i hi
  refine ⟨w.heap.size, 0, rfl, by simp, ?_⟩
  match i, hi with
  | 0, _ => go_simp
  | 1, _ => go_simp
  | 2, _ => go_simp
theorem sl2 (a b : C4) (w : World) : Sl (w.alloc (.cells #[.int .i64 a.a, .int .i64 a.b, .int .i64 a.c, .int .i64 a.d, .int .i64 b.a, .int .i64 b.b, .int .i64 b.c, .int .i64 b.d] 27)) (some ⟨w.heap.size, 0, none⟩) [a, b] := by
  intro i hi
  refine ⟨w.heap.size, 0, rfl, by simp, ?_⟩
  match i, hi with
  | 0, _ => go_simp
  | 1, _ => go_simp

theorem areCards3 (a b c : C4) (n : Nat) (w : World) (hn : n = w.heap.size) : Calls Try.prog 66 #[.slice (some ⟨n, 0, none⟩) 3 3] (w.alloc (.cells #[.int .i64 a.a, .int .i64 a.b, .int .i64 a.c, .int .i64 a.d, .int .i64 b.a, .int .i64 b.b, .int .i64 b.c, .int .i64 b.d, .int .i64 c.a, .int .i64 c.b, .int .i64 c.c, .int .i64 c.d] 27)) fun e w' => e = .returned (.bool (lineOk a b c)) ∧ Ex (w.alloc (.cells #[.int .i64 a.a, .int .i64 a.b, .int .i64 a.c, .int .i64 a.d, .int .i64 b.a, .int .i64 b.b, .int .i64 b.c, .int .i64 b.d, .int .i64 c.a, .int .i64 c.b, .int .i64 c.c, .int .i64 c.d] 27)) w' := by
  subst hn
  exact (areCards_c [a, b, c] _ 3 _ (by simp) (sl3 a b c w)).mono fun e w' ⟨h, k⟩ => ⟨by rw [h]; simp [lineOk, Bool.and_assoc], k⟩
theorem areCards2 (a b : C4) (n : Nat) (w : World) (hn : n = w.heap.size) : Calls Try.prog 66 #[.slice (some ⟨n, 0, none⟩) 2 2] (w.alloc (.cells #[.int .i64 a.a, .int .i64 a.b, .int .i64 a.c, .int .i64 a.d, .int .i64 b.a, .int .i64 b.b, .int .i64 b.c, .int .i64 b.d] 27)) fun e w' => e = .returned (.bool (differB a b)) ∧ Ex (w.alloc (.cells #[.int .i64 a.a, .int .i64 a.b, .int .i64 a.c, .int .i64 a.d, .int .i64 b.a, .int .i64 b.b, .int .i64 b.c, .int .i64 b.d] 27)) w' := by
  subst hn
  exact (areCards_c [a, b] _ 2 _ (by simp) (sl2 a b w)).mono fun e w' ⟨h, k⟩ => ⟨by rw [h]; simp [differB], k⟩

theorem implIsLine_c (a b c : C4) (w : World) : Calls Try.prog 37 #[.agg #[.int .i64 a.a, .int .i64 a.b, .int .i64 a.c, .int .i64 a.d], .agg #[.int .i64 b.a, .int .i64 b.b, .int .i64 b.c, .int .i64 b.d], .agg #[.int .i64 c.a, .int .i64 c.b, .int .i64 c.c, .int .i64 c.d]] w fun e w' => e = .returned (.tuple #[.bool (lineR a b c), .bool (lineOk a b c)]) ∧ Ex w w' := by
  by_cases h : lineOk a b c = true
  · have h1 := h
    simp only [lineOk, Bool.and_eq_true, ok_iff] at h1
    obtain ⟨⟨ha, hb⟩, hc⟩ := h1
    go_enter Try.func37, Try.ntmps37
    go_wp2_with (first | (go_at_call 66; refine (areCards3 a b c _ _ (by simp)).mono ?_; rintro e w' ⟨rfl, x, rfl⟩) | (go_at_call 67; refine (isLine_c _ _ _ ha hb _).mono ?_; rintro e w' ⟨rfl, x, rfl⟩))
    go_ret2
    exact ⟨by simp [lineR, h], by repeat (first | exact Ex.refl _ | refine Ex.ext ?_ _ | refine Ex.alloc ?_ _ | refine Ex.drew ?_)⟩
  · have h : lineOk a b c = false := by simpa using h
    go_enter Try.func37, Try.ntmps37
    go_wp2_with (first | (go_at_call 66; refine (areCards3 a b c _ _ (by simp)).mono ?_; rintro e w' ⟨rfl, x, rfl⟩))
    go_ret2
    exact ⟨by simp [lineR, h], by repeat (first | exact Ex.refl _ | refine Ex.ext ?_ _ | refine Ex.alloc ?_ _ | refine Ex.drew ?_)⟩

theorem specDifferIn_c (a b : C4) (w : World) : Calls Try.prog 38 #[.agg #[.int .i64 a.a, .int .i64 a.b, .int .i64 a.c, .int .i64 a.d], .agg #[.int .i64 b.a, .int .i64 b.b, .int .i64 b.c, .int .i64 b.d]] w fun e w' => e = .returned (.tuple #[.int .i64 (differR a b), .bool (differB a b)]) ∧ Ex w w' := by
  cases ha : ok a
  all_goals cases hb : ok b
  all_goals
    go_enter Try.func38, Try.ntmps38
    go_wp2_with (first | (go_at_call 54; refine (l2Card_c _ _).mono ?_; rintro e w' ⟨rfl, x, rfl⟩) | (go_at_call 68; refine (l2Differ_c _ _ _).mono ?_; rintro e w' ⟨rfl, x, rfl⟩))
    go_ret2
    exact ⟨by simp [differR, differB, *], by repeat (first | exact Ex.refl _ | refine Ex.ext ?_ _ | refine Ex.alloc ?_ _ | refine Ex.drew ?_)⟩

theorem implDifferIn_c (a b : C4) (w : World) : Calls Try.prog 39 #[.agg #[.int .i64 a.a, .int .i64 a.b, .int .i64 a.c, .int .i64 a.d], .agg #[.int .i64 b.a, .int .i64 b.b, .int .i64 b.c, .int .i64 b.d]] w fun e w' => e = .returned (.tuple #[.int .i64 (differR a b), .bool (differB a b)]) ∧ Ex w w' := by
  cases h : differB a b
  all_goals
    go_enter Try.func39, Try.ntmps39
    go_wp2_with (first | (go_at_call 66; refine (areCards2 a b _ _ (by simp)).mono ?_; rintro e w' ⟨rfl, x, rfl⟩) | (go_at_call 69; refine (differ_c _ _ _).mono ?_; rintro e w' ⟨rfl, x, rfl⟩))
    go_ret2
    exact ⟨by simp [differR, h], by repeat (first | exact Ex.refl _ | refine Ex.ext ?_ _ | refine Ex.alloc ?_ _ | refine Ex.drew ?_)⟩
end Go.Proofs.Ytfpnbcaleagijaa
