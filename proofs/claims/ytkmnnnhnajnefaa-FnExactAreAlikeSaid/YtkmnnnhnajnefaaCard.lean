/- The walks of the functions on single cards. -/
import Derived.Test.YtkmnnnhnajnefaaLib
import Derived.Test.YtkmnnnhnajnefaaPure
import Derived.Laws.StructEq
import Derived.Lib.Hide
namespace Go.Proofs.Ytkmnnnhnajnefaa
set_option linter.unusedSimpArgs false
set_option linter.unusedVariables false
set_option maxHeartbeats 1000000
open Go.RowKit

theorem eq_run (d : Nat) (x0 x1 x2 x3 y0 y1 y2 y3 : Int) (w : World) :
    (Op.equalIn (d+2) 36 (.agg #[.int .i64 x0, .int .i64 x1, .int .i64 x2, .int .i64 x3]) (.agg #[.int .i64 y0, .int .i64 y1, .int .i64 y2, .int .i64 y3])).run Try.prog w = .ok (x0 == y0 && (x1 == y1 && (x2 == y2 && x3 == y3))) w := by
  rw [Op.equalIn]
  simp only [Sem.run_bind, run_underlying Try.underlying36, Result.andThen_ok]
  by_cases h0 : x0 = y0 <;> by_cases h1 : x1 = y1 <;> by_cases h2 : x2 = y2 <;> by_cases h3 : x3 = y3 <;> simp [go_sem, List.range', *]

theorem guard_run (op : BinOp) (x y : Operand) (xs ys : Array Value) (w : World) : (eqGuard op 36 x y (.agg xs) (.agg ys)).run Try.prog w = .ok () w :=
  run_eqGuard_agg w op _ x y xs ys (by kernel_rfl)

theorem eql_run (a b : C4) (w : World) : (binOp .eql 36 (.agg #[.int .i64 a.a, .int .i64 a.b, .int .i64 a.c, .int .i64 a.d]) (.agg #[.int .i64 b.a, .int .i64 b.b, .int .i64 b.c, .int .i64 b.d])).run Try.prog w = .ok (.bool (ceq a b)) w := by
  rw [run_eql_struct, show (10000 : Nat) = 9998 + 2 from rfl, eq_run]; rfl
theorem neq_run (a b : C4) (w : World) : (binOp .neq 36 (.agg #[.int .i64 a.a, .int .i64 a.b, .int .i64 a.c, .int .i64 a.d]) (.agg #[.int .i64 b.a, .int .i64 b.b, .int .i64 b.c, .int .i64 b.d])).run Try.prog w = .ok (.bool (!ceq a b)) w := by
  rw [run_neq_struct, show (10000 : Nat) = 9998 + 2 from rfl, eq_run]; rfl
theorem index_run0 (x0 x1 x2 x3 : Value) (w : World) : (Instr.index 36 (.agg #[x0, x1, x2, x3]) (.int .i64 0)).run Try.prog w = .ok x0 w := by kernel_rfl
theorem index_run1 (x0 x1 x2 x3 : Value) (w : World) : (Instr.index 36 (.agg #[x0, x1, x2, x3]) (.int .i64 1)).run Try.prog w = .ok x1 w := by kernel_rfl
theorem index_run2 (x0 x1 x2 x3 : Value) (w : World) : (Instr.index 36 (.agg #[x0, x1, x2, x3]) (.int .i64 2)).run Try.prog w = .ok x2 w := by kernel_rfl
theorem index_run3 (x0 x1 x2 x3 : Value) (w : World) : (Instr.index 36 (.agg #[x0, x1, x2, x3]) (.int .i64 3)).run Try.prog w = .ok x3 w := by kernel_rfl
attribute [go_sem ↓] guard_run eql_run neq_run index_run0 index_run1 index_run2 index_run3

theorem l1In_c (n a b : Int) (w : World) : Calls Try.prog 35 #[.int .i64 n, .int .i64 a, .int .i64 b] w fun e w' => e = .returned (.bool (inR n a b)) ∧ Ex w w' := by
  by_cases h1 : a ≤ n <;> by_cases h2 : n ≤ b
  all_goals
    go_enter Try.func35, Try.ntmps35
    go_wp2
    go_ret
    exact ⟨by simp [inR, *], by repeat (first | exact Ex.refl _ | refine Ex.ext ?_ _ | refine Ex.alloc ?_ _ | refine Ex.drew ?_)⟩

theorem within_c (n a b : Int) (w : World) : Calls Try.prog 39 #[.int .i64 n, .int .i64 a, .int .i64 b] w fun e w' => e = .returned (.bool (inR n a b)) ∧ Ex w w' := by
  by_cases h1 : a ≤ n <;> by_cases h2 : n ≤ b
  all_goals
    go_enter Try.func39, Try.ntmps39
    go_wp2
    go_ret
    exact ⟨by simp [inR, *], by repeat (first | exact Ex.refl _ | refine Ex.ext ?_ _ | refine Ex.alloc ?_ _ | refine Ex.drew ?_)⟩

theorem l2Card_c (c : C4) (w : World) : Calls Try.prog 81 #[.agg #[.int .i64 c.a, .int .i64 c.b, .int .i64 c.c, .int .i64 c.d]] w fun e w' => e = .returned (.bool (ok c)) ∧ Ex w w' := by
  go_enter Try.func81, Try.ntmps81
  go_wp2
  refine wp_loop_rounds 5 ?_
  iterate 5 (all_goals (try rw [rounds_succ]); go_wp2_with (go_at_call 35; refine (l1In_c _ _ _ _).mono ?_; rintro e w' ⟨rfl, x, rfl⟩))
  all_goals
    go_ret
    exact ⟨(by (try simp only [Bool.not_eq_true', Bool.not_eq_false', bne_eq_false_iff_eq, bne_iff_ne] at *); simp [ok, *]), by repeat (first | exact Ex.refl _ | refine Ex.ext ?_ _ | refine Ex.alloc ?_ _ | refine Ex.drew ?_)⟩

-- the closure of allWithin
theorem allWithin1_c (n : Int) (B1 B2 : Nat) (lo hi : Int) (w : World) (h1 : w.cell? ⟨B1, 0, none⟩ = some (.int .i64 lo)) (h2 : w.cell? ⟨B2, 0, none⟩ = some (.int .i64 hi)) :
    Calls Try.prog 97 #[.int .i64 n, .pointer (some ⟨B1, 0, none⟩), .pointer (some ⟨B2, 0, none⟩)] w fun e w' => e = .returned (.bool (!inR n lo hi)) ∧ Ex w w' := by
  go_enter Try.func97, Try.ntmps97
  go_wp2_with (go_at_call 39; refine (within_c _ _ _ _).mono ?_; rintro e w' ⟨rfl, x, rfl⟩)
  go_ret
  exact ⟨rfl, by repeat (first | exact Ex.refl _ | refine Ex.ext ?_ _ | refine Ex.alloc ?_ _ | refine Ex.drew ?_)⟩

/-- The slice at 'b', 'o' reads as the numbers 'zs'. -/
def Ints (w : World) (b o : Nat) (zs : List Int) : Prop := b < w.heap.size ∧ ∀ i (h : i < zs.length), w.cell? ⟨b, o + i, none⟩ = some (.int .i64 zs[i])
theorem Ints.ext {w : World} {b o : Nat} {zs : List Int} (h : Ints w b o zs) (x : Ext) : Ints (ext w x) b o zs :=
  ⟨by rw [ext_size]; have := h.1; omega, fun i hi => by rw [ext_cell x b _ h.1]; exact h.2 i hi⟩

set_option maxHeartbeats 400000 in
theorem indexFunc_c (zs : List Int) (b o cap : Nat) (B1 B2 : Nat) (lo hi : Int) (w : World) (hn : zs.length ≤ 1000000000000) (hz : Ints w b o zs)
    (b1 : B1 < w.heap.size) (b2 : B2 < w.heap.size) (h1 : w.cell? ⟨B1, 0, none⟩ = some (.int .i64 lo)) (h2 : w.cell? ⟨B2, 0, none⟩ = some (.int .i64 hi)) :
    Calls Try.prog 104 #[.slice (some ⟨b, o, none⟩) zs.length cap, .func (.func 97) #[] #[.pointer (some ⟨B1, 0, none⟩), .pointer (some ⟨B2, 0, none⟩)]] w
      fun e w' => e = .returned (.int .i64 (firstNot (fun z => inR z lo hi) zs 0)) ∧ Ex w w' := by
  go_enter Try.func104, Try.ntmps104
  go_wp2
  go_loopw [8] (fun v wr => ∃ k : Nat, k ≤ zs.length ∧ v = .int .i64 k ∧ Ex w wr ∧ firstNot (fun z => inR z lo hi) zs 0 = firstNot (fun z => inR z lo hi) (zs.drop k) k) (fun v _ => zs.length - (intOf v).toNat)
  case atStart => exact ⟨0, Nat.zero_le _, rfl, Ex.refl _, rfl⟩
  case round =>
    obtain ⟨k, hk, rfl, ⟨x, rfl⟩, hf⟩ := hrel
    have Hf := Lib.hid hf
    clear hf
    obtain ⟨hb, hc⟩ := hz
    by_cases hlt : k < zs.length
    · have hck := hc k hlt
      clear hc
      have hd : zs.drop k = zs[k] :: zs.drop (k + 1) := List.drop_eq_getElem_cons hlt
      have Hd := Lib.hid hd
      clear hd
      generalize zs[k] = z at *
      go_wp2_with (go_at_call 97; refine (allWithin1_c _ B1 B2 lo hi _ (by rw [ext_cell x _ _ b1]; exact h1) (by rw [ext_cell x _ _ b2]; exact h2)).mono ?_; rintro e w' ⟨rfl, x, rfl⟩)
      · go_ret
        refine ⟨ret_int ?_, by repeat (first | exact Ex.refl _ | refine Ex.ext ?_ _ | refine Ex.alloc ?_ _ | refine Ex.drew ?_)⟩
        rw [Hf.out, Hd.out]
        rw [firstNot_no (f := fun z => inR z lo hi) (by simpa using (by assumption : (!inR z lo hi) = true))]
      · go_roundw
        case rel => 
          refine ⟨k + 1, by omega, by go_num, by repeat (first | exact Ex.refl _ | refine Ex.ext ?_ _ | refine Ex.alloc ?_ _ | refine Ex.drew ?_), ?_⟩
          rw [Hf.out, Hd.out]
          rw [firstNot_yes (f := fun z => inR z lo hi) (by simpa using (by assumption : (!inR z lo hi) = false))]
          rfl
        case measure => simp [intOf]; omega
    · have : k = zs.length := by omega
      subst this
      go_wp2
      go_ret
      exact ⟨ret_int (by rw [Hf.out, List.drop_length, firstNot_nil]), by repeat (first | exact Ex.refl _ | refine Ex.ext ?_ _ | refine Ex.alloc ?_ _ | refine Ex.drew ?_)⟩

theorem containsFunc_c (zs : List Int) (b o cap : Nat) (B1 B2 : Nat) (lo hi : Int) (w : World) (hn : zs.length ≤ 1000000000000) (hz : Ints w b o zs)
    (b1 : B1 < w.heap.size) (b2 : B2 < w.heap.size) (h1 : w.cell? ⟨B1, 0, none⟩ = some (.int .i64 lo)) (h2 : w.cell? ⟨B2, 0, none⟩ = some (.int .i64 hi)) :
    Calls Try.prog 96 #[.slice (some ⟨b, o, none⟩) zs.length cap, .func (.func 97) #[] #[.pointer (some ⟨B1, 0, none⟩), .pointer (some ⟨B2, 0, none⟩)]] w
      fun e w' => e = .returned (.bool (!zs.all (fun z => inR z lo hi))) ∧ Ex w w' := by
  go_enter Try.func96, Try.ntmps96
  have H := Lib.hid (indexFunc_c zs b o cap B1 B2 lo hi w hn hz b1 b2 h1 h2)
  clear hz h1 h2
  go_wp2_with (go_at_call 104; refine H.out.mono ?_; rintro e w' ⟨rfl, x, rfl⟩)
  go_ret
  exact ⟨ret_bool (firstNot_ge _ _), by repeat (first | exact Ex.refl _ | refine Ex.ext ?_ _ | refine Ex.alloc ?_ _ | refine Ex.drew ?_)⟩

theorem allWithin_c (zs : List Int) (b o cap : Nat) (lo hi : Int) (w : World) (hn : zs.length ≤ 1000000000000) (hz : Ints w b o zs) :
    Calls Try.prog 86 #[.slice (some ⟨b, o, none⟩) zs.length cap, .int .i64 lo, .int .i64 hi] w
      fun e w' => e = .returned (.bool (zs.all (fun z => inR z lo hi))) ∧ Ex w w' := by
  go_enter Try.func86, Try.ntmps86
  have hz' : Ints ((w.alloc (.cells #[.int .i64 lo] 3)).alloc (.cells #[.int .i64 hi] 3)) b o zs := by
    rw [alloc_ext, alloc_ext]; exact (hz.ext _).ext _
  have H := Lib.hid (containsFunc_c zs b o cap w.heap.size (w.heap.size + 1) lo hi _ hn hz' (by first | (simp; done) | (simp [ext_size]; omega)) (by first | (simp; done) | (simp [ext_size]; omega)) (by go_simp) (by go_simp))
  clear hz hz'
  go_wp2_with (go_at_call 96; refine H.out.mono ?_; rintro e w' ⟨rfl, x, rfl⟩)
  go_ret
  exact ⟨by simp, by repeat (first | exact Ex.refl _ | refine Ex.ext ?_ _ | refine Ex.alloc ?_ _ | refine Ex.drew ?_)⟩

theorem implIsCard_c (c : C4) (w : World) : Calls Try.prog 84 #[.agg #[.int .i64 c.a, .int .i64 c.b, .int .i64 c.c, .int .i64 c.d]] w fun e w' => e = .returned (.bool (ok c)) ∧ Ex w w' := by
  go_enter Try.func84, Try.ntmps84
  have hz : Ints (w.alloc (.cells #[.int .i64 c.a, .int .i64 c.b, .int .i64 c.c, .int .i64 c.d] 36)) w.heap.size 0 [c.a, c.b, c.c, c.d] := by
    refine ⟨by simp, fun i hi => ?_⟩
    match i, hi with
    | 0, _ => go_simp
    | 1, _ => go_simp
    | 2, _ => go_simp
    | 3, _ => go_simp
  have H := Lib.hid (allWithin_c [c.a, c.b, c.c, c.d] w.heap.size 0 4 0 2 _ (by simp) hz)
  clear hz
  go_wp2_with (go_at_call 86; refine H.out.mono ?_; rintro e w' ⟨rfl, x, rfl⟩)
  go_ret
  exact ⟨by simp [ok, Bool.and_assoc], by repeat (first | exact Ex.refl _ | refine Ex.ext ?_ _ | refine Ex.alloc ?_ _ | refine Ex.drew ?_)⟩

-- numbers and cards
theorem l2Number_c (c : C4) (h : Ok c) (w : World) : Calls Try.prog 69 #[.agg #[.int .i64 c.a, .int .i64 c.b, .int .i64 c.c, .int .i64 c.d]] w fun e w' => e = .returned (.int .i64 (num c)) ∧ Ex w w' := by
  obtain ⟨h1, h2, h3, h4, h5, h6, h7, h8⟩ := h
  go_enter Try.func69, Try.ntmps69
  go_wp2
  go_ret
  exact ⟨rfl, by repeat (first | exact Ex.refl _ | refine Ex.ext ?_ _ | refine Ex.alloc ?_ _ | refine Ex.drew ?_)⟩

set_option maxRecDepth 100000 in
theorem number_c (c : C4) (h : Ok c) (w : World) : Calls Try.prog 73 #[.agg #[.int .i64 c.a, .int .i64 c.b, .int .i64 c.c, .int .i64 c.d]] w fun e w' => e = .returned (.int .i64 (num c)) ∧ Ex w w' := by
  obtain ⟨h1, h2, h3, h4, h5, h6, h7, h8⟩ := h
  go_enter Try.func73, Try.ntmps73
  go_wp2
  refine wp_loop_rounds 5 ?_
  iterate 5 (all_goals (try rw [rounds_succ]); go_wp2)
  go_ret
  exact ⟨ret_int (by unfold num; omega), by repeat (first | exact Ex.refl _ | refine Ex.ext ?_ _ | refine Ex.alloc ?_ _ | refine Ex.drew ?_)⟩

theorem l2At_c (n : Int) (h0 : 0 ≤ n) (h1 : n ≤ 80) (w : World) : Calls Try.prog 47 #[.int .i64 n] w fun e w' => e = .returned (.agg #[.int .i64 (at_ n).a, .int .i64 (at_ n).b, .int .i64 (at_ n).c, .int .i64 (at_ n).d]) ∧ Ex w w' := by
  go_enter Try.func47, Try.ntmps47
  go_wp2
  refine bodyPost_ret (v := .agg #[.int .i64 (at_ n).a, .int .i64 (at_ n).b, .int .i64 (at_ n).c, .int .i64 (at_ n).d]) (by simp only [results, Try.results47]; go_simp; exact ⟨rfl, rfl, rfl, rfl⟩) rfl ⟨rfl, by repeat (first | exact Ex.refl _ | refine Ex.ext ?_ _ | refine Ex.alloc ?_ _ | refine Ex.drew ?_)⟩

theorem card_c (n : Int) (h0 : 0 ≤ n) (h1 : n ≤ 80) (w : World) : Calls Try.prog 51 #[.int .i64 n] w fun e w' => e = .returned (.agg #[.int .i64 (at_ n).a, .int .i64 (at_ n).b, .int .i64 (at_ n).c, .int .i64 (at_ n).d]) ∧ Ex w w' := by
  go_enter Try.func51, Try.ntmps51
  go_wp2
  refine bodyPost_ret (v := .agg #[.int .i64 (at_ n).a, .int .i64 (at_ n).b, .int .i64 (at_ n).c, .int .i64 (at_ n).d]) (by simp only [results, Try.results51]; go_simp; exact ⟨rfl, rfl, rfl, rfl⟩) rfl ⟨rfl, by repeat (first | exact Ex.refl _ | refine Ex.ext ?_ _ | refine Ex.alloc ?_ _ | refine Ex.drew ?_)⟩

theorem l2Third_c (a b : C4) (ha : Ok a) (hb : Ok b) (w : World) : Calls Try.prog 95 #[.agg #[.int .i64 a.a, .int .i64 a.b, .int .i64 a.c, .int .i64 a.d], .agg #[.int .i64 b.a, .int .i64 b.b, .int .i64 b.c, .int .i64 b.d]] w fun e w' => e = .returned (.agg #[.int .i64 (third a b).a, .int .i64 (third a b).b, .int .i64 (third a b).c, .int .i64 (third a b).d]) ∧ Ex w w' := by
  obtain ⟨h1, h2, h3, h4, h5, h6, h7, h8⟩ := ha
  obtain ⟨k1, k2, k3, k4, k5, k6, k7, k8⟩ := hb
  go_enter Try.func95, Try.ntmps95
  go_wp2
  refine wp_loop_rounds 5 ?_
  iterate 5 (all_goals (try rw [rounds_succ]); go_wp2_with (refine region_tail 11 (by kernel_rfl) (by kernel_rfl) ?_; simp only [List.take_succ_cons, List.take_zero, List.drop_succ_cons, List.drop_zero]; (repeat (go_big_quiet_step (fail))); refine wpQuiet_nil ?_; rintro _ ⟨x, rfl⟩))
  refine bodyPost_ret (v := .agg #[.int .i64 (third a b).a, .int .i64 (third a b).b, .int .i64 (third a b).c, .int .i64 (third a b).d]) (by simp only [results, Try.results95]; go_simp; exact ⟨rfl, rfl, rfl, rfl⟩) rfl ⟨rfl, by repeat (first | exact Ex.refl _ | refine Ex.ext ?_ _ | refine Ex.alloc ?_ _ | refine Ex.drew ?_)⟩

theorem third_c (a b : C4) (ha : Ok a) (hb : Ok b) (w : World) : Calls Try.prog 66 #[.agg #[.int .i64 a.a, .int .i64 a.b, .int .i64 a.c, .int .i64 a.d], .agg #[.int .i64 b.a, .int .i64 b.b, .int .i64 b.c, .int .i64 b.d]] w fun e w' => e = .returned (.agg #[.int .i64 (third a b).a, .int .i64 (third a b).b, .int .i64 (third a b).c, .int .i64 (third a b).d]) ∧ Ex w w' := by
  obtain ⟨h1, h2, h3, h4, h5, h6, h7, h8⟩ := ha
  obtain ⟨k1, k2, k3, k4, k5, k6, k7, k8⟩ := hb
  go_enter Try.func66, Try.ntmps66
  go_wp2
  refine wp_loop_rounds 5 ?_
  iterate 5 (all_goals (try rw [rounds_succ]); go_wp2_with (refine region_tail 11 (by kernel_rfl) (by kernel_rfl) ?_; simp only [List.take_succ_cons, List.take_zero, List.drop_succ_cons, List.drop_zero]; (repeat (go_big_quiet_step (fail))); refine wpQuiet_nil ?_; rintro _ ⟨x, rfl⟩))
  refine bodyPost_ret (v := .agg #[.int .i64 (third a b).a, .int .i64 (third a b).b, .int .i64 (third a b).c, .int .i64 (third a b).d]) (by simp only [results, Try.results66]; go_simp; exact ⟨rfl, rfl, rfl, rfl⟩) rfl ⟨rfl, by repeat (first | exact Ex.refl _ | refine Ex.ext ?_ _ | refine Ex.alloc ?_ _ | refine Ex.drew ?_)⟩

/-- The slice at 'p' reads as the cards 'cs'. -/
def Sl (w : World) (p : Option Addr) (cs : List C4) : Prop := ∀ i (h : i < cs.length), ∃ b o, p = some ⟨b, o, none⟩ ∧ b < w.heap.size ∧
  w.cell? ⟨b, o + i * 4, none⟩ = some (.int .i64 cs[i].a) ∧ w.cell? ⟨b, o + i * 4 + 1, none⟩ = some (.int .i64 cs[i].b) ∧
  w.cell? ⟨b, o + i * 4 + 2, none⟩ = some (.int .i64 cs[i].c) ∧ w.cell? ⟨b, o + i * 4 + 3, none⟩ = some (.int .i64 cs[i].d)
theorem Sl.ext {w : World} {p : Option Addr} {cs : List C4} (h : Sl w p cs) (x : Ext) : Sl (ext w x) p cs := fun i hi => by
  obtain ⟨b, o, e, hb, h1, h2, h3, h4⟩ := h i hi
  exact ⟨b, o, e, by rw [ext_size]; omega, by rw [ext_cell x b _ hb]; exact h1, by rw [ext_cell x b _ hb]; exact h2, by rw [ext_cell x b _ hb]; exact h3, by rw [ext_cell x b _ hb]; exact h4⟩
theorem Sl.alloc {w : World} {p : Option Addr} {cs : List C4} (h : Sl w p cs) (o : Obj) : Sl (w.alloc o) p cs := by rw [alloc_ext]; exact h.ext _
theorem Sl.drew {w : World} {p : Option Addr} {cs : List C4} (h : Sl w p cs) : Sl w.drew p cs := by rw [ext_drew]; exact h.ext _

end Go.Proofs.Ytkmnnnhnajnefaa
