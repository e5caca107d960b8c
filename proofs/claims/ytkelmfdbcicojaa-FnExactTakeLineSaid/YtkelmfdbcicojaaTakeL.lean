/- The walks of TakeLine. -/
import Derived.Test.YtkelmfdbcicojaaStep
import Derived.Test.YtkelmfdbcicojaaDealD
namespace Go.Proofs.Ytkelmfdbcicojaa
set_option linter.unusedSimpArgs false
set_option linter.unusedVariables false
set_option maxHeartbeats 1000000
set_option maxRecDepth 100000
open Go.RowKit


theorem eq_run3 (d : Nat) (x0 x1 x2 y0 y1 y2 : Int) (w : World) :
    (Op.equalIn (d+2) 33 (.agg #[.int .i64 x0, .int .i64 x1, .int .i64 x2]) (.agg #[.int .i64 y0, .int .i64 y1, .int .i64 y2])).run Try.prog w = .ok (x0 == y0 && (x1 == y1 && x2 == y2)) w := by
  rw [Op.equalIn]
  simp only [Sem.run_bind, run_underlying Try.underlying33, Result.andThen_ok]
  by_cases h0 : x0 = y0 <;> by_cases h1 : x1 = y1 <;> by_cases h2 : x2 = y2 <;> simp [go_sem, List.range', *]
theorem guard_run3 (op : BinOp) (x y : Operand) (xs ys : Array Value) (w : World) : (eqGuard op 33 x y (.agg xs) (.agg ys)).run Try.prog w = .ok () w :=
  run_eqGuard_agg w op _ x y xs ys (by kernel_rfl)
theorem eql_run3 (x0 x1 x2 y0 y1 y2 : Int) (w : World) : (binOp .eql 33 (.agg #[.int .i64 x0, .int .i64 x1, .int .i64 x2]) (.agg #[.int .i64 y0, .int .i64 y1, .int .i64 y2])).run Try.prog w = .ok (.bool (x0 == y0 && (x1 == y1 && x2 == y2))) w := by
  rw [run_eql_struct, show (10000 : Nat) = 9998 + 2 from rfl, eq_run3]; rfl
attribute [go_sem ↓] guard_run3 eql_run3

def teq (la lb lc : Int) (t : Nat × Nat × Nat) : Bool := la == (t.1 : Int) && (lb == (t.2.1 : Int) && lc == (t.2.2 : Int))
/-- Are three places a line? -/
def lineM (cs : List C4) (la lb lc : Int) : Bool := (linesR cs).any (teq la lb lc)
theorem lineM_yes {cs : List C4} (hn : cs.Nodup) {la lb lc : Int} (h : lineM cs la lb lc = true) :
    ∃ i j k : Nat, la = i ∧ lb = j ∧ lc = k ∧ i < j ∧ j < k ∧ ∃ (h1 : i < cs.length) (h2 : j < cs.length) (h3 : k < cs.length), lineB cs[i] cs[j] cs[k] = true := by
  obtain ⟨⟨i, j, k⟩, hm, ht⟩ := List.any_eq_true.1 h
  simp [teq] at ht
  obtain ⟨h1, h2, h3, h4⟩ := (mem_linesR hn i j k).1 hm
  exact ⟨i, j, k, ht.1, ht.2.1, ht.2.2, h1, h2, by omega, by omega, h3, h4⟩
theorem lineM_of {cs : List C4} (hn : cs.Nodup) {i j k : Nat} (h1 : i < j) (h2 : j < k) (h3 : k < cs.length) : lineM cs i j k = lineB cs[i] cs[j] cs[k] := by
  rw [Bool.eq_iff_iff]
  constructor
  · intro h
    obtain ⟨i', j', k', e1, e2, e3, _, _, _, _, _, h4⟩ := lineM_yes hn h
    obtain rfl : i = i' := by omega
    obtain rfl : j = j' := by omega
    obtain rfl : k = k' := by omega
    exact h4
  · intro h
    exact List.any_eq_true.2 ⟨(i, j, k), (mem_linesR hn i j k).2 ⟨h1, h2, h3, h⟩, by simp [teq]⟩
theorem l1In_r {n a b : Int} {r : Bool} {w : World} (h : inR n a b = r) : Calls Try.prog 83 #[.int .i64 n, .int .i64 a, .int .i64 b] w fun e w' => e = .returned (.bool r) ∧ Ex w w' := by
  subst h; exact l1In_c _ _ _ _

theorem l4LineYes_c (s n : Int) (cs : List C4) (p : Option Addr) (cap : Nat) (i j k : Nat) (w : World) (hn : cs.length ≤ 1000) (hok : ∀ z ∈ cs, Ok z) (hz : Sl w p cs) (hij : i < j) (hjk : j < k) (hk : k < cs.length) :
    Calls Try.prog 71 #[.agg #[.int .i64 s, .int .i64 n, .slice p cs.length cap], .agg #[.int .i64 i, .int .i64 j, .int .i64 k]] w fun e w' => e = .returned (.bool (lineB cs[i] cs[j] cs[k])) ∧ Ex w w' := by
  have hwr : IntKind.i64.wrap ((cs.length : Int) - 1) = (cs.length : Int) - 1 := IntWalk.i64_in _ (by omega)
  have Hz := Lib.hid hz
  have Hok := Lib.hid hok
  clear hz hok
  have hi : i < cs.length := by omega
  have hj : j < cs.length := by omega
  have h0 : inR (i : Int) 0 ((cs.length : Int) - 1) = true := (inR_iff _ _ _).2 (by omega)
  have h1 : inR (j : Int) 0 ((cs.length : Int) - 1) = true := (inR_iff _ _ _).2 (by omega)
  have h2 : inR (k : Int) 0 ((cs.length : Int) - 1) = true := (inR_iff _ _ _).2 (by omega)
  have g1 : ¬ ((j : Int) ≤ (i : Int)) := by omega
  have g2 : ¬ ((k : Int) ≤ (j : Int)) := by omega
  obtain ⟨b, o, rfl, hb, e1, e2, e3, e4⟩ := Hz.out i hi
  obtain ⟨_, _, eb, _, f1, f2, f3, f4⟩ := Hz.out j hj
  cases eb
  obtain ⟨_, _, eb, _, k1, k2, k3, k4⟩ := Hz.out k hk
  cases eb
  have oi := Hok.out _ (List.getElem_mem hi)
  have oj := Hok.out _ (List.getElem_mem hj)
  have ok := Hok.out _ (List.getElem_mem hk)
  generalize cs[i] = ci at *
  generalize cs[j] = cj at *
  generalize cs[k] = ck at *
  go_enter Try.func71, Try.ntmps71
  go_wp2
  refine wp_loop_rounds 4 ?_
  iterate 3 (rw [rounds_succ]; go_wp2_with (refine region_quiet (by kernel_rfl) (by kernel_rfl) ?_; (repeat (go_big_quiet_step ((go_at_call 83; exact (l1In_r (by assumption)).mono (by rintro e w' ⟨rfl, y, rfl⟩; exact ⟨rfl, by simp only [ext_ext, Ext.app_assoc]; exact ⟨_, rfl⟩⟩))))); refine wpQuiet_nil ?_; rintro _ ⟨x, rfl⟩))
  rw [rounds_succ]
  go_wp2_with (refine region_quiet (by kernel_rfl) (by kernel_rfl) ?_; (repeat (go_big_quiet_step ((go_at_call 108; exact (l2Line_c _ _ _ (by assumption) (by assumption) _).mono (by rintro e w' ⟨rfl, y, rfl⟩; exact ⟨rfl, by simp only [ext_ext, Ext.app_assoc]; exact ⟨_, rfl⟩⟩))))); refine wpQuiet_nil ?_; rintro _ ⟨x, rfl⟩)
  go_ret
  exact ⟨rfl, by repeat (first | exact Ex.refl _ | refine Ex.ext ?_ _ | refine Ex.alloc ?_ _ | refine Ex.drew ?_)⟩
theorem l4Line_c (s n : Int) (cs : List C4) (p : Option Addr) (cap : Nat) (la lb lc : Int) (w : World) (hn : cs.length ≤ 1000) (hnd : cs.Nodup) (hok : ∀ z ∈ cs, Ok z) (hz : Sl w p cs) :
    Calls Try.prog 71 #[.agg #[.int .i64 s, .int .i64 n, .slice p cs.length cap], .agg #[.int .i64 la, .int .i64 lb, .int .i64 lc]] w fun e w' => e = .returned (.bool (lineM cs la lb lc)) ∧ Ex w w' := by
  have hwr : IntKind.i64.wrap ((cs.length : Int) - 1) = (cs.length : Int) - 1 := IntWalk.i64_in _ (by omega)
  have Hz := Lib.hid hz
  have Hok := Lib.hid hok
  clear hz hok
  have hno : (¬ (inR la 0 ((cs.length : Int) - 1) = true ∧ inR lb 0 ((cs.length : Int) - 1) = true ∧ inR lc 0 ((cs.length : Int) - 1) = true ∧ la < lb ∧ lb < lc)) → lineM cs la lb lc = false := by
    intro h
    cases hm : lineM cs la lb lc
    · rfl
    · exfalso
      obtain ⟨i, j, k, rfl, rfl, rfl, h1, h2, h3, h4, h5, _⟩ := lineM_yes hnd hm
      refine h ⟨(inR_iff _ _ _).2 (by omega), (inR_iff _ _ _).2 (by omega), (inR_iff _ _ _).2 (by omega), by omega, by omega⟩
  have Hno := Lib.hid hno
  clear hno
  cases h0 : inR la 0 ((cs.length : Int) - 1)
  · rw [Hno.out (by simp [h0])]
    (go_enter Try.func71, Try.ntmps71; go_wp2; refine wp_loop_rounds 4 ?_; (iterate 1 (rw [rounds_succ]; go_wp2_with (refine region_quiet (by kernel_rfl) (by kernel_rfl) ?_; (repeat (go_big_quiet_step ((go_at_call 83; exact (l1In_r (by assumption)).mono (by rintro e w' ⟨rfl, y, rfl⟩; exact ⟨rfl, by simp only [ext_ext, Ext.app_assoc]; exact ⟨_, rfl⟩⟩))))); refine wpQuiet_nil ?_; rintro _ ⟨x, rfl⟩))); go_ret; exact ⟨rfl, by repeat (first | exact Ex.refl _ | refine Ex.ext ?_ _ | refine Ex.alloc ?_ _ | refine Ex.drew ?_)⟩)
  cases h1 : inR lb 0 ((cs.length : Int) - 1)
  · rw [Hno.out (by simp [h1])]
    (go_enter Try.func71, Try.ntmps71; go_wp2; refine wp_loop_rounds 4 ?_; (iterate 2 (rw [rounds_succ]; go_wp2_with (refine region_quiet (by kernel_rfl) (by kernel_rfl) ?_; (repeat (go_big_quiet_step ((go_at_call 83; exact (l1In_r (by assumption)).mono (by rintro e w' ⟨rfl, y, rfl⟩; exact ⟨rfl, by simp only [ext_ext, Ext.app_assoc]; exact ⟨_, rfl⟩⟩))))); refine wpQuiet_nil ?_; rintro _ ⟨x, rfl⟩))); go_ret; exact ⟨rfl, by repeat (first | exact Ex.refl _ | refine Ex.ext ?_ _ | refine Ex.alloc ?_ _ | refine Ex.drew ?_)⟩)
  by_cases g1 : lb ≤ la
  · rw [Hno.out (by rintro ⟨_, _, _, h, _⟩; omega)]
    (go_enter Try.func71, Try.ntmps71; go_wp2; refine wp_loop_rounds 4 ?_; (iterate 2 (rw [rounds_succ]; go_wp2_with (refine region_quiet (by kernel_rfl) (by kernel_rfl) ?_; (repeat (go_big_quiet_step ((go_at_call 83; exact (l1In_r (by assumption)).mono (by rintro e w' ⟨rfl, y, rfl⟩; exact ⟨rfl, by simp only [ext_ext, Ext.app_assoc]; exact ⟨_, rfl⟩⟩))))); refine wpQuiet_nil ?_; rintro _ ⟨x, rfl⟩))); go_ret; exact ⟨rfl, by repeat (first | exact Ex.refl _ | refine Ex.ext ?_ _ | refine Ex.alloc ?_ _ | refine Ex.drew ?_)⟩)
  cases h2 : inR lc 0 ((cs.length : Int) - 1)
  · rw [Hno.out (by simp [h2])]
    (go_enter Try.func71, Try.ntmps71; go_wp2; refine wp_loop_rounds 4 ?_; (iterate 3 (rw [rounds_succ]; go_wp2_with (refine region_quiet (by kernel_rfl) (by kernel_rfl) ?_; (repeat (go_big_quiet_step ((go_at_call 83; exact (l1In_r (by assumption)).mono (by rintro e w' ⟨rfl, y, rfl⟩; exact ⟨rfl, by simp only [ext_ext, Ext.app_assoc]; exact ⟨_, rfl⟩⟩))))); refine wpQuiet_nil ?_; rintro _ ⟨x, rfl⟩))); go_ret; exact ⟨rfl, by repeat (first | exact Ex.refl _ | refine Ex.ext ?_ _ | refine Ex.alloc ?_ _ | refine Ex.drew ?_)⟩)
  by_cases g2 : lc ≤ lb
  · rw [Hno.out (by rintro ⟨_, _, _, _, h⟩; omega)]
    (go_enter Try.func71, Try.ntmps71; go_wp2; refine wp_loop_rounds 4 ?_; (iterate 3 (rw [rounds_succ]; go_wp2_with (refine region_quiet (by kernel_rfl) (by kernel_rfl) ?_; (repeat (go_big_quiet_step ((go_at_call 83; exact (l1In_r (by assumption)).mono (by rintro e w' ⟨rfl, y, rfl⟩; exact ⟨rfl, by simp only [ext_ext, Ext.app_assoc]; exact ⟨_, rfl⟩⟩))))); refine wpQuiet_nil ?_; rintro _ ⟨x, rfl⟩))); go_ret; exact ⟨rfl, by repeat (first | exact Ex.refl _ | refine Ex.ext ?_ _ | refine Ex.alloc ?_ _ | refine Ex.drew ?_)⟩)
  have b0 := (inR_iff _ _ _).1 h0
  have b1 := (inR_iff _ _ _).1 h1
  have b2 := (inR_iff _ _ _).1 h2
  obtain ⟨i, rfl⟩ : ∃ i : Nat, la = i := ⟨la.toNat, by omega⟩
  obtain ⟨j, rfl⟩ : ∃ i : Nat, lb = i := ⟨lb.toNat, by omega⟩
  obtain ⟨k, rfl⟩ : ∃ i : Nat, lc = i := ⟨lc.toNat, by omega⟩
  have hi : i < cs.length := by omega
  have hj : j < cs.length := by omega
  have hk : k < cs.length := by omega
  rw [lineM_of hnd (by omega) (by omega) hk]
  exact l4LineYes_c _ _ _ _ _ _ _ _ _ hn Hok.out Hz.out (by omega) (by omega) hk

theorem triInts_at : ∀ (ts : List (Nat × Nat × Nat)) (k : Nat) (h : k < ts.length), (triInts ts)[k * 3]? = some (ts[k].1 : Int) ∧ (triInts ts)[k * 3 + 1]? = some (ts[k].2.1 : Int) ∧ (triInts ts)[k * 3 + 2]? = some (ts[k].2.2 : Int)
  | [], k, h => by simp at h
  | (i, j, m) :: ts, 0, h => by simp [triInts]
  | (i, j, m) :: ts, k + 1, h => by
    have := triInts_at ts k (by simpa using h)
    have e : (k + 1) * 3 = k * 3 + 3 := by omega
    simpa [triInts, e] using this
theorem tri_at {w : World} {g lo cap : Nat} {ts : List (Nat × Nat × Nat)} (h : RowV 33 3 lo w g cap ts.length (intVals (triInts ts))) (k : Nat) (hk : k < ts.length) :
    g < w.heap.size ∧ w.cell? ⟨g, k * 3, none⟩ = some (.int .i64 ts[k].1) ∧ w.cell? ⟨g, k * 3 + 1, none⟩ = some (.int .i64 ts[k].2.1) ∧ w.cell? ⟨g, k * 3 + 2, none⟩ = some (.int .i64 ts[k].2.2) := by
  have hs := (RowV.rowZ h).sl
  have hl := triInts_length ts
  obtain ⟨t0, t1, t2⟩ := triInts_at ts k hk
  refine ⟨h.blk.2, ?_, ?_, ?_⟩
  · obtain ⟨b, o, e, _, h1⟩ := hs (k * 3) (by omega)
    cases e
    rw [List.getElem?_eq_getElem (by omega)] at t0
    simp only [Option.some.injEq] at t0
    simpa [t0] using h1
  · obtain ⟨b, o, e, _, h1⟩ := hs (k * 3 + 1) (by omega)
    cases e
    rw [List.getElem?_eq_getElem (by omega)] at t1
    simp only [Option.some.injEq] at t1
    simpa [t1] using h1
  · obtain ⟨b, o, e, _, h1⟩ := hs (k * 3 + 2) (by omega)
    cases e
    rw [List.getElem?_eq_getElem (by omega)] at t2
    simp only [Option.some.injEq] at t2
    simpa [t2] using h1

def fstT (la lb lc : Int) : List (Nat × Nat × Nat) → Int → Int
  | [], _ => -1
  | t :: ts, k => if teq la lb lc t then k else fstT la lb lc ts (k + 1)
theorem fstT_yes {la lb lc k : Int} {t : Nat × Nat × Nat} {ts : List (Nat × Nat × Nat)} (h : teq la lb lc t = true) : fstT la lb lc (t :: ts) k = k := by simp [fstT, h]
theorem fstT_no {la lb lc k : Int} {t : Nat × Nat × Nat} {ts : List (Nat × Nat × Nat)} (h : teq la lb lc t = false) : fstT la lb lc (t :: ts) k = fstT la lb lc ts (k + 1) := by simp [fstT, h]
theorem fstT_ge (la lb lc : Int) : ∀ (ts : List (Nat × Nat × Nat)) (k : Int), 0 ≤ k → decide (0 ≤ fstT la lb lc ts k) = ts.any (teq la lb lc)
  | [], k, _ => by simp [fstT]
  | t :: ts, k, hk => by
    cases h : teq la lb lc t
    · rw [fstT_no h, fstT_ge la lb lc ts (k + 1) (by omega)]; simp [h]
    · rw [fstT_yes h]; simp [h, hk]

theorem index3S_c (ts : List (Nat × Nat × Nat)) (la lb lc : Int) (g lo cap : Nat) (w : World) (hn : ts.length ≤ 1000000000) (hz : RowV 33 3 lo w g cap ts.length (intVals (triInts ts))) :
    Calls Try.prog 115 #[.slice (some ⟨g, 0, none⟩) ts.length cap, .agg #[.int .i64 la, .int .i64 lb, .int .i64 lc]] w fun e w' => e = .returned (.int .i64 (fstT la lb lc ts 0)) ∧ Ex w w' := by
  have Hz := Lib.hid hz
  clear hz
  go_enter Try.func115, Try.ntmps115
  go_wp2
  go_loopw [8] (fun v wr => ∃ k : Nat, k ≤ ts.length ∧ v = .int .i64 k ∧ Ex (w.alloc (.cells #[.int .i64 la, .int .i64 lb, .int .i64 lc] 33)) wr ∧ fstT la lb lc ts 0 = fstT la lb lc (ts.drop k) k) (fun v _ => ts.length - (intOf v).toNat)
  case atStart => exact ⟨0, Nat.zero_le _, rfl, Ex.refl _, rfl⟩
  case round =>
    obtain ⟨k, hk, rfl, ⟨xx, rfl⟩, hf⟩ := hrel
    have Hf := Lib.hid hf
    clear hf
    by_cases hlt : k < ts.length
    · obtain ⟨hb, h1, h2, h3⟩ := tri_at Hz.out k hlt
      have Hd := Lib.hid (List.drop_eq_getElem_cons hlt)
      obtain ⟨t, ht⟩ : ∃ t, t = ts[k] := ⟨_, rfl⟩
      rw [← ht] at h1 h2 h3 Hd
      clear ht
      obtain ⟨i, j, m⟩ := t
      cases hc : teq la lb lc (i, j, m)
      all_goals
        have hc' := hc
        simp only [teq] at hc'
        go_wp2_with (refine region_quiet (by kernel_rfl) (by kernel_rfl) ?_; (repeat (go_big_quiet_step (fail))); refine wpQuiet_nil ?_; rintro _ ⟨x, rfl⟩)
      · go_roundw
        case rel =>
          refine ⟨k + 1, by omega, by go_num, by repeat (first | exact Ex.refl _ | refine Ex.ext ?_ _ | refine Ex.alloc ?_ _ | refine Ex.drew ?_), ?_⟩
          rw [Hf.out, Hd.out, fstT_no hc]
          rfl
        case measure => simp [intOf]; omega
      · go_ret
        refine ⟨ret_int ?_, by repeat (first | exact Ex.refl _ | refine Ex.ext ?_ _ | refine Ex.alloc ?_ _ | refine Ex.drew ?_)⟩
        rw [Hf.out, Hd.out, fstT_yes hc]
    · have : k = ts.length := by omega
      subst this
      go_wp2
      go_ret
      exact ⟨ret_int (by rw [Hf.out, List.drop_length]; rfl), by repeat (first | exact Ex.refl _ | refine Ex.ext ?_ _ | refine Ex.alloc ?_ _ | refine Ex.drew ?_)⟩
theorem contains3S_c (ts : List (Nat × Nat × Nat)) (la lb lc : Int) (g lo cap : Nat) (w : World) (hn : ts.length ≤ 1000000000) (hz : RowV 33 3 lo w g cap ts.length (intVals (triInts ts))) :
    Calls Try.prog 73 #[.slice (some ⟨g, 0, none⟩) ts.length cap, .agg #[.int .i64 la, .int .i64 lb, .int .i64 lc]] w fun e w' => e = .returned (.bool (ts.any (teq la lb lc))) ∧ Ex w w' := by
  have H := Lib.hid (fun o => index3S_c ts la lb lc g lo cap _ hn (hz.ex ((Ex.refl w).alloc o)))
  clear hz
  go_enter Try.func73, Try.ntmps73
  go_wp2_with (go_at_call 115; refine (H.out _).mono ?_; rintro e w' ⟨rfl, xx, rfl⟩)
  go_ret
  exact ⟨ret_bool (fstT_ge _ _ _ _ _ (by omega)), by repeat (first | exact Ex.refl _ | refine Ex.ext ?_ _ | refine Ex.alloc ?_ _ | refine Ex.drew ?_)⟩

def tlB (s n : Int) (cs : List C4) (la lb lc : Int) : Bool := dealB s n cs && lineM cs la lb lc
def tlS (s n : Int) (cs : List C4) (la lb lc : Int) : Int := if tlB s n cs la lb lc then s else 0
def tlN (s n : Int) (cs : List C4) (la lb lc : Int) : Int := if tlB s n cs la lb lc then takN n cs la.toNat lb.toNat lc.toNat else 0
def tlL (s n : Int) (cs : List C4) (la lb lc : Int) : List C4 := if tlB s n cs la lb lc then takL s n cs la.toNat lb.toNat lc.toNat else []
theorem tlL_len (s n : Int) (cs : List C4) (la lb lc : Int) : (tlL s n cs la lb lc).length ≤ 1000 := by
  unfold tlL; split
  · rename_i h
    simp only [tlB, Bool.and_eq_true] at h
    have hd := (dealB_ok h.1).take la.toNat lb.toNat lc.toNat
    have := hd.len
    have := hd.n1
    omega
  · simp

theorem specTakeLine_c (s n : Int) (cs : List C4) (p : Option Addr) (cap : Nat) (la lb lc : Int) (w : World) (hcap : cs.length ≤ cap) (hc2 : cap ≤ 1000000000000) (hz : Src w (.slice p cs.length cap) cs) :
    Calls Try.prog 24 #[.agg #[.int .i64 s, .int .i64 n, .slice p cs.length cap], .agg #[.int .i64 la, .int .i64 lb, .int .i64 lc]] w fun e w' => ∃ q cap', e = .returned (.tuple #[.agg #[.int .i64 (tlS s n cs la lb lc), .int .i64 (tlN s n cs la lb lc), .slice q (tlL s n cs la lb lc).length cap'], .bool (tlB s n cs la lb lc)]) ∧ Ex w w' ∧ Row w.heap.size w'.heap.size w' q cap' (tlL s n cs la lb lc) := by
  have Hz := Lib.hid hz
  clear hz
  cases h1 : dealB s n cs
  · have HB := Lib.hid (show tlB s n cs la lb lc = false by simp [tlB, h1])
    have HR := Lib.hid (show tlL s n cs la lb lc = [] by simp [tlL, tlB, h1])
    go_enter Try.func24, Try.ntmps24
    go_wp2_with (go_at_call 63; refine (l4Deal_c _ _ _ _ _ _ hcap hc2 (Hz.out.sl.ex (by repeat (first | exact Ex.refl _ | refine Ex.ext ?_ _ | refine Ex.alloc ?_ _ | refine Ex.drew ?_)))).mono ?_; rintro e w' ⟨rfl, x, rfl⟩; rw [h1])
    refine bodyPost_ret (v := .tuple #[.agg #[.int .i64 (tlS s n cs la lb lc), .int .i64 (tlN s n cs la lb lc), .slice none (tlL s n cs la lb lc).length 0], .bool (tlB s n cs la lb lc)]) (by simp only [results, Try.results24]; go_simp; simp [tlS, tlN, tlL, HB.out]) rfl ⟨none, 0, rfl, by repeat (first | exact Ex.refl _ | refine Ex.ext ?_ _ | refine Ex.alloc ?_ _ | refine Ex.drew ?_), ?_⟩
    rw [HR.out]
    exact Row.nil _ _ _
  · have hD := dealB_ok h1
    have Hd := Lib.hid hD
    have hlen : cs.length ≤ 1000 := by have := hD.len; have := hD.n1; omega
    clear hD
    cases h2 : lineM cs la lb lc
    · have HB := Lib.hid (show tlB s n cs la lb lc = false by simp [tlB, h2])
      have HR := Lib.hid (show tlL s n cs la lb lc = [] by simp [tlL, tlB, h2])
      go_enter Try.func24, Try.ntmps24
      go_wp2_with (first | (go_at_call 63; refine (l4Deal_c _ _ _ _ _ _ hcap hc2 (Hz.out.sl.ex (by repeat (first | exact Ex.refl _ | refine Ex.ext ?_ _ | refine Ex.alloc ?_ _ | refine Ex.drew ?_)))).mono ?_; rintro e w' ⟨rfl, x, rfl⟩; rw [h1]) | (go_at_call 71; refine (l4Line_c _ _ _ _ _ _ _ _ _ hlen Hd.out.nodup Hd.out.ok (Hz.out.sl.ex (by repeat (first | exact Ex.refl _ | refine Ex.ext ?_ _ | refine Ex.alloc ?_ _ | refine Ex.drew ?_)))).mono ?_; rintro e w' ⟨rfl, x, rfl⟩; rw [h2]))
      refine bodyPost_ret (v := .tuple #[.agg #[.int .i64 (tlS s n cs la lb lc), .int .i64 (tlN s n cs la lb lc), .slice none (tlL s n cs la lb lc).length 0], .bool (tlB s n cs la lb lc)]) (by simp only [results, Try.results24]; go_simp; simp [tlS, tlN, tlL, HB.out]) rfl ⟨none, 0, rfl, by repeat (first | exact Ex.refl _ | refine Ex.ext ?_ _ | refine Ex.alloc ?_ _ | refine Ex.drew ?_), ?_⟩
      rw [HR.out]
      exact Row.nil _ _ _
    · obtain ⟨i, j, k, rfl, rfl, rfl, _, _, hi, hj, hk, _⟩ := lineM_yes Hd.out.nodup h2
      have HB := Lib.hid (show tlB s n cs i j k = true by simp [tlB, h1, h2])
      have HR := Lib.hid (show tlL s n cs i j k = takL s n cs i j k by simp [tlL, tlB, h1, h2])
      go_enter Try.func24, Try.ntmps24
      go_wp2_with (first | (go_at_call 63; refine (l4Deal_c _ _ _ _ _ _ hcap hc2 (Hz.out.sl.ex (by repeat (first | exact Ex.refl _ | refine Ex.ext ?_ _ | refine Ex.alloc ?_ _ | refine Ex.drew ?_)))).mono ?_; rintro e w' ⟨rfl, x, rfl⟩; rw [h1]) | (go_at_call 71; refine (l4Line_c _ _ _ _ _ _ _ _ _ hlen Hd.out.nodup Hd.out.ok (Hz.out.sl.ex (by repeat (first | exact Ex.refl _ | refine Ex.ext ?_ _ | refine Ex.alloc ?_ _ | refine Ex.drew ?_)))).mono ?_; rintro e w' ⟨rfl, x, rfl⟩; rw [h2]) | (go_at_call 72; refine (l4Take_c _ _ _ _ _ _ _ _ _ Hd.out (by omega) (by omega) (by omega) (Hz.out.ex (by exact by repeat (first | exact Ex.refl _ | refine Ex.ext ?_ _ | refine Ex.alloc ?_ _ | refine Ex.drew ?_)))).mono ?_; rintro e w2 ⟨g, cap', rfl, ⟨y2, rfl⟩, hr2⟩; simp only [ext_ext, Ext.app_assoc] at hr2; have Hr2 := Lib.hid hr2; clear hr2))
      refine bodyPost_ret (v := .tuple #[.agg #[.int .i64 (tlS s n cs i j k), .int .i64 (tlN s n cs i j k), .slice (some ⟨g, 0, none⟩) (tlL s n cs i j k).length cap'], .bool (tlB s n cs i j k)]) (by simp only [results, Try.results24]; go_simp; simp [tlS, tlN, HB.out, HR.out]) rfl ⟨_, cap', rfl, by repeat (first | exact Ex.refl _ | refine Ex.ext ?_ _ | refine Ex.alloc ?_ _ | refine Ex.drew ?_), ?_⟩
      rw [HR.out]
      exact Row.mono (Row.high Hr2.out (by simp) (by simp [go_sem])) (by simp [ext_size]; omega) (by simp [ext_size])
theorem implIsDeal_r {s n : Int} {cs : List C4} {p : Option Addr} {cap : Nat} {w : World} {r : Bool} (h : dealB s n cs = r) (hcap : cs.length ≤ cap) (hc2 : cap ≤ 1000000000000) (hz : Sl w p cs) :
    Calls Try.prog 66 #[.agg #[.int .i64 s, .int .i64 n, .slice p cs.length cap]] w fun e w' => e = .returned (.bool r) ∧ Ex w w' := by
  subst h; exact implIsDeal_c _ _ _ _ _ _ hcap hc2 hz
theorem implTakeLine_c (s n : Int) (cs : List C4) (p : Option Addr) (cap : Nat) (la lb lc : Int) (w : World) (hcap : cs.length ≤ cap) (hc2 : cap ≤ 1000000000000) (hz : Src w (.slice p cs.length cap) cs) :
    Calls Try.prog 26 #[.agg #[.int .i64 s, .int .i64 n, .slice p cs.length cap], .agg #[.int .i64 la, .int .i64 lb, .int .i64 lc]] w fun e w' => ∃ q cap', e = .returned (.tuple #[.agg #[.int .i64 (tlS s n cs la lb lc), .int .i64 (tlN s n cs la lb lc), .slice q (tlL s n cs la lb lc).length cap'], .bool (tlB s n cs la lb lc)]) ∧ Ex w w' ∧ Row w.heap.size w'.heap.size w' q cap' (tlL s n cs la lb lc) := by
  have Hz := Lib.hid hz
  clear hz
  cases h1 : dealB s n cs
  · have HB := Lib.hid (show tlB s n cs la lb lc = false by simp [tlB, h1])
    have HR := Lib.hid (show tlL s n cs la lb lc = [] by simp [tlL, tlB, h1])
    go_enter Try.func26, Try.ntmps26
    go_wp2_with (refine region_quiet (by kernel_rfl) (by kernel_rfl) ?_; (repeat (go_big_quiet_step ((go_at_call 66; exact (implIsDeal_r h1 hcap hc2 (Hz.out.sl.ex (by repeat (first | exact Ex.refl _ | refine Ex.ext ?_ _ | refine Ex.alloc ?_ _ | refine Ex.drew ?_)))).mono (by rintro e w' ⟨rfl, y, rfl⟩; first | exact ⟨rfl, _, ext_ext _ _⟩ | exact ⟨rfl, _, by rw [ext_ext, Ext.app_assoc]⟩ | exact ⟨rfl, _, by rw [ext_ext, Ext.app_assoc, Ext.app_assoc]⟩ | exact ⟨rfl, _, by rw [ext_ext, Ext.app_assoc, Ext.app_assoc, Ext.app_assoc]⟩))))); refine wpQuiet_nil ?_; rintro _ ⟨x, rfl⟩)
    refine bodyPost_ret (v := .tuple #[.agg #[.int .i64 (tlS s n cs la lb lc), .int .i64 (tlN s n cs la lb lc), .slice none (tlL s n cs la lb lc).length 0], .bool (tlB s n cs la lb lc)]) (by simp only [results, Try.results26]; go_simp; simp [tlS, tlN, tlL, HB.out]) rfl ⟨none, 0, rfl, by repeat (first | exact Ex.refl _ | refine Ex.ext ?_ _ | refine Ex.alloc ?_ _ | refine Ex.drew ?_), ?_⟩
    rw [HR.out]
    exact Row.nil _ _ _
  · have hD := dealB_ok h1
    have Hd := Lib.hid hD
    have hlen : cs.length ≤ 1000 := by have := hD.len; have := hD.n1; omega
    have hsm := lines_small hlen
    clear hD
    have d0 : (((w.alloc (.cells #[.int .i64 s, .int .i64 n, .slice p cs.length cap] 26)).alloc (.cells #[.int .i64 la, .int .i64 lb, .int .i64 lc] 33)).alloc (.cells #[.int .i64 0, .int .i64 0, .slice none 0 0] 26)).cell? ⟨w.heap.size, 0, none⟩ = some (.int .i64 s) := by go_simp
    have d1 : (((w.alloc (.cells #[.int .i64 s, .int .i64 n, .slice p cs.length cap] 26)).alloc (.cells #[.int .i64 la, .int .i64 lb, .int .i64 lc] 33)).alloc (.cells #[.int .i64 0, .int .i64 0, .slice none 0 0] 26)).cell? ⟨w.heap.size, 1, none⟩ = some (.int .i64 n) := by go_simp
    have d2 : (((w.alloc (.cells #[.int .i64 s, .int .i64 n, .slice p cs.length cap] 26)).alloc (.cells #[.int .i64 la, .int .i64 lb, .int .i64 lc] 33)).alloc (.cells #[.int .i64 0, .int .i64 0, .slice none 0 0] 26)).cell? ⟨w.heap.size, 2, none⟩ = some (.slice p cs.length cap) := by go_simp
    have d3 : (((w.alloc (.cells #[.int .i64 s, .int .i64 n, .slice p cs.length cap] 26)).alloc (.cells #[.int .i64 la, .int .i64 lb, .int .i64 lc] 33)).alloc (.cells #[.int .i64 0, .int .i64 0, .slice none 0 0] 26)).cell? ⟨w.heap.size + 1, 0, none⟩ = some (.int .i64 la) := by go_simp
    have d4 : (((w.alloc (.cells #[.int .i64 s, .int .i64 n, .slice p cs.length cap] 26)).alloc (.cells #[.int .i64 la, .int .i64 lb, .int .i64 lc] 33)).alloc (.cells #[.int .i64 0, .int .i64 0, .slice none 0 0] 26)).cell? ⟨w.heap.size + 1, 1, none⟩ = some (.int .i64 lb) := by go_simp
    have d5 : (((w.alloc (.cells #[.int .i64 s, .int .i64 n, .slice p cs.length cap] 26)).alloc (.cells #[.int .i64 la, .int .i64 lb, .int .i64 lc] 33)).alloc (.cells #[.int .i64 0, .int .i64 0, .slice none 0 0] 26)).cell? ⟨w.heap.size + 1, 2, none⟩ = some (.int .i64 lc) := by go_simp
    cases h2 : lineM cs la lb lc
    · have HB := Lib.hid (show tlB s n cs la lb lc = false by simp [tlB, h2])
      have HR := Lib.hid (show tlL s n cs la lb lc = [] by simp [tlL, tlB, h2])
      go_enter Try.func26, Try.ntmps26
      go_wp2
      (go_region_held3 (fun w' => w'.cell? ⟨w.heap.size, 0, none⟩ = some (.int .i64 s) ∧ w'.cell? ⟨w.heap.size, 1, none⟩ = some (.int .i64 n) ∧ w'.cell? ⟨w.heap.size, 2, none⟩ = some (.slice p cs.length cap) ∧ w'.cell? ⟨w.heap.size + 1, 0, none⟩ = some (.int .i64 la) ∧ w'.cell? ⟨w.heap.size + 1, 1, none⟩ = some (.int .i64 lb) ∧ w'.cell? ⟨w.heap.size + 1, 2, none⟩ = some (.int .i64 lc)) (exact ⟨Ex.cell (by exact by repeat (first | exact Ex.refl _ | refine Ex.ext ?_ _ | refine Ex.alloc ?_ _ | refine Ex.drew ?_)) d0, Ex.cell (by exact by repeat (first | exact Ex.refl _ | refine Ex.ext ?_ _ | refine Ex.alloc ?_ _ | refine Ex.drew ?_)) d1, Ex.cell (by exact by repeat (first | exact Ex.refl _ | refine Ex.ext ?_ _ | refine Ex.alloc ?_ _ | refine Ex.drew ?_)) d2, Ex.cell (by exact by repeat (first | exact Ex.refl _ | refine Ex.ext ?_ _ | refine Ex.alloc ?_ _ | refine Ex.drew ?_)) d3, Ex.cell (by exact by repeat (first | exact Ex.refl _ | refine Ex.ext ?_ _ | refine Ex.alloc ?_ _ | refine Ex.drew ?_)) d4, Ex.cell (by exact by repeat (first | exact Ex.refl _ | refine Ex.ext ?_ _ | refine Ex.alloc ?_ _ | refine Ex.drew ?_)) d5⟩) (first | (go_at_call 66; refine (implIsDeal_r h1 hcap hc2 (Hz.out.sl.ex (by repeat (first | exact Ex.refl _ | refine Ex.ext ?_ _ | refine Ex.alloc ?_ _ | refine Ex.drew ?_)))).mono ?_; rintro e w' ⟨rfl, x1, rfl⟩) | (go_at_call 74; refine (linesIn_c _ _ _ _ hlen Hd.out.nodup Hd.out.ok (Hz.out.sl.ex (by repeat (first | exact Ex.refl _ | refine Ex.ext ?_ _ | refine Ex.alloc ?_ _ | refine Ex.drew ?_)))).mono ?_; rintro e w' ⟨g, cg, rfl, ⟨x2, rfl⟩, hrow⟩; simp only [ext_ext, Ext.app_assoc] at hrow; have Hrow := Lib.hid hrow; clear hrow) | (go_at_call 73; refine (contains3S_c (linesR cs) la lb lc g _ cg _ (by omega) Hrow.out).mono ?_; rw [show (linesR cs).any (teq la lb lc) = lineM cs la lb lc from rfl, h2]; rintro e w' ⟨rfl, x3, rfl⟩)))
      go_wp2
      refine bodyPost_ret (v := .tuple #[.agg #[.int .i64 (tlS s n cs la lb lc), .int .i64 (tlN s n cs la lb lc), .slice none (tlL s n cs la lb lc).length 0], .bool (tlB s n cs la lb lc)]) (by simp only [results, Try.results26]; go_simp; simp [tlS, tlN, tlL, HB.out]) rfl ⟨none, 0, rfl, by repeat (first | exact Ex.refl _ | refine Ex.ext ?_ _ | refine Ex.alloc ?_ _ | refine Ex.drew ?_), ?_⟩
      rw [HR.out]
      exact Row.nil _ _ _
    · obtain ⟨i, j, k, rfl, rfl, rfl, _, _, hi, hj, hk, _⟩ := lineM_yes Hd.out.nodup h2
      have HB := Lib.hid (show tlB s n cs i j k = true by simp [tlB, h1, h2])
      have HR := Lib.hid (show tlL s n cs i j k = takL s n cs i j k by simp [tlL, tlB, h1, h2])
      go_enter Try.func26, Try.ntmps26
      go_wp2
      (go_region_held3 (fun w' => w'.cell? ⟨w.heap.size, 0, none⟩ = some (.int .i64 s) ∧ w'.cell? ⟨w.heap.size, 1, none⟩ = some (.int .i64 n) ∧ w'.cell? ⟨w.heap.size, 2, none⟩ = some (.slice p cs.length cap) ∧ w'.cell? ⟨w.heap.size + 1, 0, none⟩ = some (.int .i64 i) ∧ w'.cell? ⟨w.heap.size + 1, 1, none⟩ = some (.int .i64 j) ∧ w'.cell? ⟨w.heap.size + 1, 2, none⟩ = some (.int .i64 k)) (exact ⟨Ex.cell (by exact by repeat (first | exact Ex.refl _ | refine Ex.ext ?_ _ | refine Ex.alloc ?_ _ | refine Ex.drew ?_)) d0, Ex.cell (by exact by repeat (first | exact Ex.refl _ | refine Ex.ext ?_ _ | refine Ex.alloc ?_ _ | refine Ex.drew ?_)) d1, Ex.cell (by exact by repeat (first | exact Ex.refl _ | refine Ex.ext ?_ _ | refine Ex.alloc ?_ _ | refine Ex.drew ?_)) d2, Ex.cell (by exact by repeat (first | exact Ex.refl _ | refine Ex.ext ?_ _ | refine Ex.alloc ?_ _ | refine Ex.drew ?_)) d3, Ex.cell (by exact by repeat (first | exact Ex.refl _ | refine Ex.ext ?_ _ | refine Ex.alloc ?_ _ | refine Ex.drew ?_)) d4, Ex.cell (by exact by repeat (first | exact Ex.refl _ | refine Ex.ext ?_ _ | refine Ex.alloc ?_ _ | refine Ex.drew ?_)) d5⟩) (first | (go_at_call 66; refine (implIsDeal_r h1 hcap hc2 (Hz.out.sl.ex (by repeat (first | exact Ex.refl _ | refine Ex.ext ?_ _ | refine Ex.alloc ?_ _ | refine Ex.drew ?_)))).mono ?_; rintro e w' ⟨rfl, x1, rfl⟩) | (go_at_call 74; refine (linesIn_c _ _ _ _ hlen Hd.out.nodup Hd.out.ok (Hz.out.sl.ex (by repeat (first | exact Ex.refl _ | refine Ex.ext ?_ _ | refine Ex.alloc ?_ _ | refine Ex.drew ?_)))).mono ?_; rintro e w' ⟨g, cg, rfl, ⟨x2, rfl⟩, hrow⟩; simp only [ext_ext, Ext.app_assoc] at hrow; have Hrow := Lib.hid hrow; clear hrow) | (go_at_call 73; refine (contains3S_c (linesR cs) i j k g _ cg _ (by omega) Hrow.out).mono ?_; rw [show (linesR cs).any (teq i j k) = lineM cs i j k from rfl, h2]; rintro e w' ⟨rfl, x3, rfl⟩)))
      go_wp2_with (go_at_call 75; refine (take_c _ _ _ _ _ _ _ _ _ Hd.out (by omega) (by omega) (by omega) (Hz.out.ex (by exact by repeat (first | exact Ex.refl _ | refine Ex.ext ?_ _ | refine Ex.alloc ?_ _ | refine Ex.drew ?_)))).mono ?_; rintro e w2 ⟨r, cap', rfl, ⟨y2, rfl⟩, hr2⟩; simp only [ext_ext, Ext.app_assoc] at hr2; have Hr2 := Lib.hid hr2; clear hr2)
      refine bodyPost_ret (v := .tuple #[.agg #[.int .i64 (tlS s n cs i j k), .int .i64 (tlN s n cs i j k), .slice r (tlL s n cs i j k).length cap'], .bool (tlB s n cs i j k)]) (by simp only [results, Try.results26]; go_simp; simp [tlS, tlN, HB.out, HR.out]) rfl ⟨_, cap', rfl, by repeat (first | exact Ex.refl _ | refine Ex.ext ?_ _ | refine Ex.alloc ?_ _ | refine Ex.drew ?_), ?_⟩
      rw [HR.out]
      exact Row.mono (Row.high Hr2.out (by simp) (by simp [go_sem])) (by simp [ext_size]; omega) (by simp [ext_size])
end Go.Proofs.Ytkelmfdbcicojaa
