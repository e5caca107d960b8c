/- slices.Compact at cards. -/
import Derived.Test.YtnjfkgggebhelaaSortP
import Derived.Test.YtnjfkgggebhelaaOwn
import Derived.Laws.CopyRow
namespace Go.Proofs.Ytnjfkgggebhelaa
set_option linter.unusedSimpArgs false
set_option linter.unusedVariables false
set_option maxHeartbeats 1000000
set_option maxRecDepth 100000
open Go.RowKit

theorem zero4_run (w : World) : (zeroValue 29).run Try.prog w = .ok (.agg #[.int .i64 0, .int .i64 0, .int .i64 0, .int .i64 0]) w := by
  have h : (Try.prog.info? 29).map (fun i => (i.zero, i.size, i.bytes)) = some (some (.agg #[.int .i64 0, .int .i64 0, .int .i64 0, .int .i64 0]), 4, 32) := by kernel_rfl
  obtain ⟨i, h1, h2, h3, h4⟩ := info_parts h
  simp [zeroValue, h1, h2]
  rfl
theorem setRow_blk (w : World) (g : Nat) (A X : Array Value) (E : TypeId) (h : w.heap[g]? = some (.cells A E (0, 0))) : w.setRow g X = setBlk w g (.cells X E (0, 0)) := by
  simp only [World.setRow, setBlk]
  congr 1
  apply Array.ext_getElem?
  intro k
  rw [Array.getElem?_modify, Array.getElem?_setIfInBounds]
  by_cases hk : g = k
  · subst hk; rw [h]; simp [(Array.getElem?_eq_some_iff.1 h).1]
  · simp [hk]
def cleared (A : Array Value) (o n : Nat) : Array Value := (A.toList.take o ++ (Builtin.zeroCells #[.int .i64 0, .int .i64 0, .int .i64 0, .int .i64 0] n).toList ++ A.toList.drop (o + n * 4)).toArray
theorem cleared_size {A : Array Value} {o n : Nat} (h : o + n * 4 ≤ A.size) : (cleared A o n).size = A.size := by
  simp [cleared, Builtin.zeroCells]; omega
theorem cleared_get {A : Array Value} {o n j : Nat} (h : o + n * 4 ≤ A.size) (hj : j < o) : (cleared A o n)[j]? = A[j]? := by
  simp only [cleared, List.append_assoc, List.getElem?_toArray]
  rw [List.getElem?_append_left (by simp; omega), List.getElem?_take, if_pos hj, Array.getElem?_toList]
theorem run_clear4 (w : World) (g cap k : Nat) (A : Array Value) (n : Nat) (ty : TypeId) (hg : w.heap[g]? = some (.cells A 29 (0, 0))) (hl : k * 4 + n * 4 ≤ A.size) :
    (Builtin.clear_ #[22] ty #[.slice (some ⟨g, k * 4, none⟩) n cap]).run Try.prog w = .ok (.tuple #[]) (setBlk w g (.cells (if n = 0 then A else cleared A (k * 4) n) 29 (0, 0))) := by
  cases n with
  | zero =>
    rw [if_pos rfl, ← setBlk_self hg]
    simp [Builtin.clear_, run_underlying Try.underlying22]
  | succ m =>
    have hst := run_storeCells_at (P := Try.prog) g (k * 4) 29 (Builtin.zeroCells #[.int .i64 0, .int .i64 0, .int .i64 0, .int .i64 0] (m + 1)).toList 0 A w hg (by simp [Builtin.zeroCells]; omega) (by
      intro v hv
      simp only [Builtin.zeroCells, Array.toList_map, List.mem_map] at hv
      obtain ⟨i, _, rfl⟩ := hv
      have : i % 4 = 0 ∨ i % 4 = 1 ∨ i % 4 = 2 ∨ i % 4 = 3 := by omega
      show ((#[.int .i64 0, .int .i64 0, .int .i64 0, .int .i64 0] : Array Value)[i % 4]!).oneCell' = true
      rcases this with h | h | h | h <;> rw [h] <;> rfl)
    have hlen : (Builtin.zeroCells (#[.int .i64 0, .int .i64 0, .int .i64 0, .int .i64 0] : Array Value) (m + 1)).toList.length = (m + 1) * 4 := by simp [Builtin.zeroCells]
    rw [if_neg (by omega)]
    simp only [Nat.add_zero, hlen] at hst
    have e : (Value.agg #[.int .i64 0, .int .i64 0, .int .i64 0, .int .i64 0]).cells = (#[.int .i64 0, .int .i64 0, .int .i64 0, .int .i64 0] : Array Value) := rfl
    simp only [Builtin.clear_]
    simp [run_underlying Try.underlying22, zero4_run, e]
    simp only [Builtin.zeroCells] at hst ⊢
    simp only [cleared, Builtin.zeroCells]
    rw [← setRow_blk w g A _ _ hg]
    simp at hst ⊢
    rw [hst]
    rfl

theorem compact_all {ds : List C4} (h : ∀ j, 0 < j → j < ds.length → ds[j]? ≠ ds[j - 1]?) : Lib.compact ds = ds := by
  have e : Lib.compact ds = kept ds ds.length := rfl
  rw [e, kept_all (Nat.le_refl _), List.take_length]
  intro j hj
  by_cases h0 : j = 0
  · subst h0; simp [Lib.keeps]
  · refine Lib.keeps_pos ?_
    rw [bang hj, bang (by omega)]
    intro he
    apply h j (by omega) hj
    rw [List.getElem?_eq_getElem hj, List.getElem?_eq_getElem (by omega), he]
theorem kept_first {ds : List C4} {k : Nat} (hk : k ≤ ds.length) (h : ∀ j, 0 < j → j < k → ds[j]? ≠ ds[j - 1]?) : kept ds k = ds.take k := by
  refine kept_all hk fun j hj => ?_
  by_cases h0 : j = 0
  · subst h0; simp [Lib.keeps]
  · refine Lib.keeps_pos ?_
    rw [bang (by omega), bang (by omega)]
    intro he
    apply h j (by omega) hj
    rw [List.getElem?_eq_getElem (by omega), List.getElem?_eq_getElem (by omega), he]
theorem half_take {ds : List C4} {k : Nat} (h : kept ds k = ds.take k) (hk : k ≤ ds.length) : half ds k = ds := by
  unfold half
  rw [h, List.length_take, Nat.min_eq_left hk, List.take_append_drop]
theorem RowV.get4 {lo g cap n : Nat} {w : World} {cs : List C4} (h : RowV 29 4 lo w g cap n (cellsOf cs)) (hn : n = cs.length) {j : Nat} (hj : j < cs.length) :
    w.cell? ⟨g, j * 4, none⟩ = some (.int .i64 cs[j].a) ∧ w.cell? ⟨g, j * 4 + 1, none⟩ = some (.int .i64 cs[j].b) ∧ w.cell? ⟨g, j * 4 + 2, none⟩ = some (.int .i64 cs[j].c) ∧ w.cell? ⟨g, j * 4 + 3, none⟩ = some (.int .i64 cs[j].d) := by
  obtain ⟨A, hw, hA, hcap, hg, hc⟩ := h.open hn
  obtain ⟨g1, g2, g3, g4⟩ := cellsOf_get cs j hj
  rw [← hc _ (by omega)] at g1 g2 g3 g4
  rw [hw]
  simp only [setBlk_cell _ _ _ _ _ hg]
  exact ⟨g1, g2, g3, g4⟩

theorem compact_c (ds : List C4) (g cap lo : Nat) (w : World) (hn : ds.length ≤ 100000000) (hrow : RowV 29 4 lo w g cap ds.length (cellsOf ds)) :
    Calls Try.prog 84 #[.slice (some ⟨g, 0, none⟩) ds.length cap] w fun e w' =>
      e = .returned (.slice (some ⟨g, 0, none⟩) (Lib.compact ds).length cap) ∧ RowV 29 4 lo w' g cap (Lib.compact ds).length (cellsOf (Lib.compact ds)) ∧ Keeps g w w' := by
  have HR := Lib.hid hrow
  have hlc := hrow.lens.1
  clear hrow
  go_enter Try.func84, Try.ntmps84
  by_cases h2 : ds.length < 2
  · go_wp2
    go_ret
    have e : Lib.compact ds = ds := compact_all fun j h0 hj => by omega
    rw [e]
    exact ⟨rfl, HR.out.ex (by repeat (first | exact Ex.refl _ | refine Ex.ext ?_ _ | refine Ex.alloc ?_ _ | refine Ex.drew ?_)), Ex.keeps (by repeat (first | exact Ex.refl _ | refine Ex.ext ?_ _ | refine Ex.alloc ?_ _ | refine Ex.drew ?_)) g⟩
  · go_wp2
    go_loopw [3] (fun v wr => ∃ k : Nat, 1 ≤ k ∧ k ≤ ds.length ∧ v = .int .i64 k ∧ Ex w wr ∧ ∀ j, 0 < j → j < k → ds[j]? ≠ ds[j - 1]?) (fun v _ => ds.length - (intOf v).toNat)
    case atStart => exact ⟨1, by omega, by omega, rfl, by repeat (first | exact Ex.refl _ | refine Ex.ext ?_ _ | refine Ex.alloc ?_ _ | refine Ex.drew ?_), fun j h0 h1 => by omega⟩
    case round =>
      obtain ⟨k, hk1, hk, rfl, hE, hf⟩ := hrel
      have HE := Lib.hid hE
      have Hf := Lib.hid hf
      clear hf
      by_cases hlt : k < ds.length
      · obtain ⟨a1, a2, a3, a4⟩ := (HR.out.ex hE).get4 rfl hlt
        obtain ⟨b1, b2, b3, b4⟩ := (HR.out.ex hE).get4 rfl (show k - 1 < ds.length by omega)
        have Hz := Lib.hid (show ds[k]? = some ds[k] from List.getElem?_eq_getElem hlt)
        have Hy := Lib.hid (show ds[k - 1]? = some ds[k - 1] from List.getElem?_eq_getElem (by omega))
        have hgb := (HR.out.ex hE).blk.2
        clear hE
        generalize ds[k] = z at *
        generalize ds[k - 1] = y at *
        cases hc : ceq z y
        all_goals go_wp2_with (refine region_quiet (by kernel_rfl) (by kernel_rfl) ?_; (repeat (go_big_quiet_step (fail))); refine wpQuiet_nil ?_; rintro _ ⟨x, rfl⟩)
        · go_roundw
          case rel =>
            refine ⟨k + 1, by omega, by omega, by go_num, HE.out.trans (by repeat (first | exact Ex.refl _ | refine Ex.ext ?_ _ | refine Ex.alloc ?_ _ | refine Ex.drew ?_)), fun j h0 hj => ?_⟩
            by_cases e : j = k
            · subst e
              rw [Hz.out, Hy.out]
              intro e
              have := Option.some.inj e
              rw [(ceq_iff z y).2 this] at hc
              cases hc
            · exact Hf.out j h0 (by omega)
          case measure => simp [intOf]; omega
        · have hzy : z = y := (ceq_iff z y).1 hc
          have hkf := kept_first hk Hf.out
          have Hs : Hid ((kept ds (k + 1)).length = k ∧ half ds (k + 1) = ds) := Lib.hid (by
            have e : kept ds (k + 1) = kept ds k := kept_no hlt (by omega) (by
              have h1 := Hz.out
              have h2 := Hy.out
              rw [List.getElem?_eq_getElem hlt] at h1
              rw [List.getElem?_eq_getElem (by omega)] at h2
              rw [Option.some.inj h1, Option.some.inj h2, hzy])
            refine ⟨by rw [e, hkf, List.length_take]; omega, ?_⟩
            have := half_take hkf hk
            unfold half at this ⊢
            rw [e]
            exact this)
          clear a1 a2 a3 a4 b1 b2 b3 b4 hc hkf
          subst hzy
          obtain ⟨w0, hw0⟩ : ∃ w0 : World, w0 = ext wr x := ⟨_, rfl⟩
          have HE0 := Lib.hid (show Ex w w0 by rw [hw0]; exact HE.out.ext _)
          have HR0 := Lib.hid (HR.out.ex HE0.out)
          rw [← hw0]
          clear hw0
          go_wp2
          go_loopw [3, 5] (fun u v wr => ∃ i q : Nat, 1 ≤ i ∧ k + i ≤ ds.length ∧ v = .int .i64 i ∧ u = .int .i64 q ∧ (kept ds (k + i)).length = q ∧ q < k + i ∧ RowV 29 4 lo wr g cap ds.length (cellsOf (half ds (k + i))) ∧ Keeps g w wr) (fun _ v _ => ds.length - (intOf v).toNat)
          case atStart => exact ⟨1, k, by omega, by omega, rfl, rfl, Hs.out.1, by omega, by rw [Hs.out.2]; exact HR0.out, HE0.out.keeps g⟩
          case round =>
            obtain ⟨i, q, hi1, hi, rfl, rfl, hq, hqk, hrow, hkeep⟩ := hrel
            have HK := Lib.hid hkeep
            have HQ := Lib.hid hq
            have HR1 := Lib.hid hrow
            have hl : (half ds (k + i)).length = ds.length := half_length hi
            have hgb := hrow.blk.2
            clear hkeep hq
            by_cases hlt2 : k + i < ds.length
            · have f1 := half_get (ds := ds) (m := k + i) (j := k + i) (by rw [HQ.out]; omega) hlt2 (by omega)
              have f2 := half_get (ds := ds) (m := k + i) (j := k + i - 1) (by rw [HQ.out]; omega) (by omega) (by omega)
              obtain ⟨a1, a2, a3, a4⟩ := hrow.get4 hl.symm (show k + i < (half ds (k + i)).length by omega)
              obtain ⟨b1, b2, b3, b4⟩ := hrow.get4 hl.symm (show k + i - 1 < (half ds (k + i)).length by omega)
              rw [f1] at a1 a2 a3 a4
              rw [f2] at b1 b2 b3 b4
              have hz2 : ds[k + i]? = some ds[k + i] := List.getElem?_eq_getElem hlt2
              have hy2 : ds[k + i - 1]? = some (ds[k + i - 1]'(by omega)) := List.getElem?_eq_getElem (by omega)
              have Hyes := Lib.hid (fun (h : ds[k + i] ≠ ds[k + i - 1]'(by omega)) => And.intro (kept_yes hlt2 (by omega) h) (half_yes hlt2 (by omega) h))
              have Hno := Lib.hid (fun (h : ds[k + i] = ds[k + i - 1]'(by omega)) => And.intro (kept_no hlt2 (by omega) h) (show half ds (k + i + 1) = half ds (k + i) by unfold half; rw [kept_no hlt2 (by omega) h]))
              clear hz2 hy2 f1 f2 hrow
              rw [Nat.add_mul] at a1 a2 a3 a4
              rw [show (k + i - 1) * 4 = k * 4 + (i - 1) * 4 by omega] at b1 b2 b3 b4
              generalize ds[k + i] = z2 at *
              generalize ds[k + i - 1] = y2 at *
              cases hc2 : ceq z2 y2
              · go_upto_region 12 with (refine region_quiet (by kernel_rfl) (by kernel_rfl) ?_; (repeat (go_big_quiet_step (fail))); refine wpQuiet_nil ?_; rintro _ ⟨x, rfl⟩)
                have hne : z2 ≠ y2 := fun e => by rw [(ceq_iff z2 y2).2 e] at hc2; cases hc2
                obtain ⟨hy1, hy2⟩ := Hyes.out hne
                have Hy1 := Lib.hid hy1
                have Hy2 := Lib.hid hy2
                clear hy1 hy2 hc2 hne Hyes Hno b1 b2 b3 b4
                obtain ⟨w1, hw1⟩ : ∃ w1 : World, w1 = ext wr x := ⟨_, rfl⟩
                have HE1 := Lib.hid (show Ex wr w1 by rw [hw1]; exact by repeat (first | exact Ex.refl _ | refine Ex.ext ?_ _ | refine Ex.alloc ?_ _ | refine Ex.drew ?_))
                rw [← hw1]
                obtain ⟨A, hw, hA, hcp, hg, hc⟩ := (HR1.out.ex HE1.out).open hl.symm
                have e0 : w1.cell? ⟨g, k * 4 + i * 4, none⟩ = some (.int .i64 z2.a) := by rw [hw1]; go_simp
                have e1 : w1.cell? ⟨g, k * 4 + i * 4 + 1, none⟩ = some (.int .i64 z2.b) := by rw [hw1]; go_simp
                have e2 : w1.cell? ⟨g, k * 4 + i * 4 + 2, none⟩ = some (.int .i64 z2.c) := by rw [hw1]; go_simp
                have e3 : w1.cell? ⟨g, k * 4 + i * 4 + 3, none⟩ = some (.int .i64 z2.d) := by rw [hw1]; go_simp
                clear a1 a2 a3 a4 hgb hw1
                rw [hw] at e0 e1 e2 e3 ⊢
                rw [setBlk_cell _ _ _ _ _ hg] at e0 e1 e2 e3
                have HA := Lib.hid hA
                have Hc := Lib.hid hc
                have ts : (half ds (k + i)).length * 4 ≤ A.size := by rw [hA]; omega
                have HA2 := Lib.hid ts
                have g0 : q * 4 < A.size := by omega
                have g1 : q * 4 + 1 < A.size := by omega
                have g2 : q * 4 + 2 < A.size := by omega
                have g3 : q * 4 + 3 < A.size := by omega
                obtain ⟨u0, k0⟩ := cells_some g0
                obtain ⟨u1, k1⟩ := cells_some g1
                obtain ⟨u2, k2⟩ := cells_some g2
                obtain ⟨u3, k3⟩ := cells_some g3
                clear hA hc hw
                go_wp2
                go_roundw
                case rel =>
                  have hgw := (HR1.out.ex HE1.out).blk
                  have e1' := set_cells (i := q) (c := z2) (by omega) HA2.out Hc.out
                  (try ((repeat apply Exists.intro); refine ⟨?_, rfl⟩))
                  refine ⟨i + 1, q + 1, by omega, by omega, by go_num, by go_num, ?_, by omega, ?_, ?_⟩
                  · rw [← Nat.add_assoc, Hy1.out, List.length_append, HQ.out]; rfl
                  · rw [← Nat.add_assoc, Hy2.out, HQ.out]
                    refine RowV.ex (w := setBlk w1 g (.cells ((((A.setIfInBounds (q * 4) (.int .i64 z2.a)).setIfInBounds (q * 4 + 1) (.int .i64 z2.b)).setIfInBounds (q * 4 + 2) (.int .i64 z2.c)).setIfInBounds (q * 4 + 3) (.int .i64 z2.d)) 29 (0, 0))) ?_ (by exact by repeat (first | exact Ex.refl _ | refine Ex.ext ?_ _ | refine Ex.alloc ?_ _ | refine Ex.drew ?_))
                    refine (HR1.out.ex HE1.out).shut hl.symm (by simp) (by simp only [Array.size_setIfInBounds]; exact HA.out) ?_
                    intro jj hjj
                    exact e1' jj (by simp only [List.length_set] at hjj ⊢; exact hjj)
                  · refine HK.out.trans ((HE1.out.keeps g).trans ?_)
                    refine Keeps.trans (w' := setBlk w1 g (.cells ((((A.setIfInBounds (q * 4) (.int .i64 z2.a)).setIfInBounds (q * 4 + 1) (.int .i64 z2.b)).setIfInBounds (q * 4 + 2) (.int .i64 z2.c)).setIfInBounds (q * 4 + 3) (.int .i64 z2.d)) 29 (0, 0))) (setBlk_keeps _) ?_
                    exact Ex.keeps (by exact by repeat (first | exact Ex.refl _ | refine Ex.ext ?_ _ | refine Ex.alloc ?_ _ | refine Ex.drew ?_)) g
                case measure => simp [intOf]; omega
              · go_wp2_with (refine region_quiet (by kernel_rfl) (by kernel_rfl) ?_; (repeat (go_big_quiet_step (fail))); refine wpQuiet_nil ?_; rintro _ ⟨x, rfl⟩)
                go_roundw
                case rel =>
                  have hze : z2 = y2 := (ceq_iff z2 y2).1 hc2
                  obtain ⟨hy1, hy2⟩ := Hno.out hze
                  (try ((repeat apply Exists.intro); refine ⟨?_, rfl⟩))
                  refine ⟨i + 1, q, by omega, by omega, by go_num, rfl, ?_, by omega, ?_, ?_⟩
                  · rw [← Nat.add_assoc, hy1]; exact HQ.out
                  · rw [← Nat.add_assoc, hy2]
                    exact HR1.out.ex (by repeat (first | exact Ex.refl _ | refine Ex.ext ?_ _ | refine Ex.alloc ?_ _ | refine Ex.drew ?_))
                  · exact HK.out.trans (Ex.keeps (by repeat (first | exact Ex.refl _ | refine Ex.ext ?_ _ | refine Ex.alloc ?_ _ | refine Ex.drew ?_)) g)
                case measure => simp [intOf]; omega
            · have hie : k + i = ds.length := by omega
              obtain ⟨A, hw, hA, hcp, hg, hc⟩ := HR1.out.open hl.symm
              have hqc : q < cap := by omega
              have hqn : (cap = q) = False := eq_false (by omega)
              clear hrow
              have hw' : wr.heap[g]? = some (.cells A 29 (0, 0)) := by rw [hw, setBlk_heap, if_pos rfl, if_pos hg]
              have HCL := fun c ty => run_clear4 wr g c q A (ds.length - q) ty hw' (by omega)
              simp only [show ¬ ds.length - q = 0 by omega, if_false] at HCL
              have HA := Lib.hid hA
              have Hc := Lib.hid hc
              have Hie := Lib.hid hie
              clear hA hc hw hw' hie
              go_wp2
              go_ret
              have hcl : (kept ds (k + i)).length = (Lib.compact ds).length := by rw [Hie.out]; rfl
              have hqe : (Lib.compact ds).length = q := by rw [← hcl]; exact HQ.out
              have hkd : kept ds (k + i) = Lib.compact ds := by rw [Hie.out]; rfl
              have hov : q * 4 + (ds.length - q) * 4 ≤ A.size := by rw [HA.out]; omega
              refine ⟨by rw [hqe]; exact rfl, ?_, (HK.out.trans (setBlk_keeps _)).trans (Ex.keeps (by repeat (first | exact Ex.refl _ | refine Ex.ext ?_ _ | refine Ex.alloc ?_ _ | refine Ex.drew ?_)) g)⟩
              refine RowV.ex (w := setBlk wr g (.cells (cleared A (q * 4) (ds.length - q)) 29 (0, 0))) ?_ (by exact by repeat (first | exact Ex.refl _ | refine Ex.ext ?_ _ | refine Ex.alloc ?_ _ | refine Ex.drew ?_))
              have hlo := HR1.out.blk.1
              have hmx := HR1.out.lens.2.1
              refine ⟨by rw [cellsOf_length], .inr ⟨g, cap, cleared A (q * 4) (ds.length - q), by rw [hqe], hlo, by rw [setBlk_heap, if_pos rfl, if_pos hg], by omega, hmx, ?_, ?_⟩⟩
              · rw [cleared_size hov]; exact HA.out
              · apply List.ext_getElem?
                intro j
                rw [List.getElem?_take, Array.getElem?_toList]
                by_cases hj : j < (Lib.compact ds).length * 4
                · rw [if_pos hj]
                  have e1 : (cleared A (q * 4) (ds.length - q))[j]? = A[j]? := cleared_get hov (by omega)
                  rw [e1, Hc.out j (by omega)]
                  unfold half
                  rw [cellsOf_append, List.getElem?_append_left (by rw [cellsOf_length, hcl]; exact hj), hkd]
                · rw [if_neg hj, List.getElem?_eq_none (by rw [cellsOf_length]; omega)]
      · have : k = ds.length := by omega
        subst this
        clear hE
        go_wp2
        go_ret
        rw [compact_all Hf.out]
        exact ⟨rfl, HR.out.ex HE.out, HE.out.keeps g⟩
end Go.Proofs.Ytnjfkgggebhelaa
