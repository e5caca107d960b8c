/- The walks of piles. -/
import Derived.Test.YtkelmfdbcicojaaLawH
import Derived.Test.YtkelmfdbcicojaaPileP
import Derived.Test.YtkelmfdbcicojaaStrA
import Derived.Deep.RegionHeld3
import Derived.Deep.Cut
namespace Go.Proofs.Ytkelmfdbcicojaa
set_option linter.unusedSimpArgs false
set_option linter.unusedVariables false
set_option maxHeartbeats 1000000
set_option maxRecDepth 100000
open Go.RowKit

theorem rowC4 : RowT Try.prog 22 52 4 32 :=
  ⟨Try.underlying22, by
    have h : (Try.prog.info? 52).map (fun i => (i.zero, i.size, i.bytes)) = some (some (.agg #[.int .i64 0, .int .i64 0, .int .i64 0, .int .i64 0]), 4, 32) := by kernel_rfl
    obtain ⟨i, h1, h2, h3, h4⟩ := info_parts h
    exact ⟨i, _, h1, h2, h3, h4, rfl⟩, by decide⟩

theorem RowV.row {lo g cap n : Nat} {w : World} {cs : List C4} (h : RowV 52 4 lo w g cap n (cellsOf cs)) (hn : n = cs.length) : Row lo w.heap.size w (some ⟨g, 0, none⟩) cap cs := by
  subst hn
  exact ⟨h, fun a e => by simp at e; subst e; exact h.blk.2⟩

theorem RowV.open {lo g cap n : Nat} {w : World} {cs : List C4} (h : RowV 52 4 lo w g cap n (cellsOf cs)) (hn : n = cs.length) :
    ∃ A, w = setBlk w g (.cells A 52 (0, 0)) ∧ A.size = cap * 4 ∧ cs.length ≤ cap ∧ g < w.heap.size ∧ ∀ j, j < cs.length * 4 → A[j]? = (cellsOf cs)[j]? := by
  subst hn
  rcases h.2 with ⟨h1, _⟩ | ⟨g', cap', cur, h1, h2, h3, h4, h5, h6, h7⟩
  · simp at h1
  · simp at h1
    obtain ⟨rfl, rfl⟩ := h1
    refine ⟨cur, setBlk_self h3, h6, h4, h.blk.2, fun j hj => ?_⟩
    rw [← h7, List.getElem?_take, if_pos hj, Array.getElem?_toList]

theorem RowV.shut {lo g cap n : Nat} {w : World} {cs ds : List C4} {A : Array Value} (h : RowV 52 4 lo w g cap n (cellsOf cs)) (hn : n = cs.length) (hl : ds.length = cs.length) (hs : A.size = cap * 4)
    (hA : ∀ j, j < ds.length * 4 → A[j]? = (cellsOf ds)[j]?) : RowV 52 4 lo (setBlk w g (.cells A 52 (0, 0))) g cap n (cellsOf ds) := by
  subst hn
  have := (row_set (h.row rfl) hl hs hA).own
  rw [hl] at this
  exact this

theorem cells_set (cs : List C4) (c : C4) : ∀ (i : Nat), i < cs.length → cellsOf (cs.set i c) = ((((cellsOf cs).set (i * 4) (.int .i64 c.a)).set (i * 4 + 1) (.int .i64 c.b)).set (i * 4 + 2) (.int .i64 c.c)).set (i * 4 + 3) (.int .i64 c.d) := by
  induction cs with
  | nil => intro i h; simp at h
  | cons z cs ih =>
    intro i h
    cases i with
    | zero => simp [cellsOf]
    | succ i =>
      have e : (i + 1) * 4 = i * 4 + 1 + 1 + 1 + 1 := by omega
      simp only [List.set_cons_succ, cellsOf, e, ih i (by simpa using h)]

theorem set_cells {A : Array Value} {cs : List C4} {i : Nat} {c : C4} (hi : i < cs.length) (hs : cs.length * 4 ≤ A.size) (h : ∀ j, j < cs.length * 4 → A[j]? = (cellsOf cs)[j]?) :
    ∀ j, j < cs.length * 4 → ((((A.setIfInBounds (i * 4) (.int .i64 c.a)).setIfInBounds (i * 4 + 1) (.int .i64 c.b)).setIfInBounds (i * 4 + 2) (.int .i64 c.c)).setIfInBounds (i * 4 + 3) (.int .i64 c.d))[j]? = (cellsOf (cs.set i c))[j]? := by
  intro j hj
  rw [cells_set cs c i hi]
  have hl := cellsOf_length cs
  simp only [Array.getElem?_setIfInBounds, Array.size_setIfInBounds, List.getElem?_set, List.length_set, hl]
  rw [h j hj]
  have e0 : (i * 4 < A.size) = (i * 4 < cs.length * 4) := by simp only [eq_iff_iff]; omega
  have e1 : (i * 4 + 1 < A.size) = (i * 4 + 1 < cs.length * 4) := by simp only [eq_iff_iff]; omega
  have e2 : (i * 4 + 2 < A.size) = (i * 4 + 2 < cs.length * 4) := by simp only [eq_iff_iff]; omega
  have e3 : (i * 4 + 3 < A.size) = (i * 4 + 3 < cs.length * 4) := by simp only [eq_iff_iff]; omega
  simp only [e0, e1, e2, e3]

theorem ext_box (w : World) (y : Ext) (m n : Nat) (hn : n = w.heap.size + m) (c : C4) (h : y.blocks[m]? = some (.cells #[.int .i64 c.a, .int .i64 c.b, .int .i64 c.c, .int .i64 c.d] 52)) : Box4 (ext w y) n c.a c.b c.c c.d := by
  subst hn
  have hh : (ext w y).heap[w.heap.size + m]? = some (.cells #[.int .i64 c.a, .int .i64 c.b, .int .i64 c.c, .int .i64 c.d] 52) := by
    simp only [ext]
    rw [Array.getElem?_append_right (by omega), Nat.add_sub_cancel_left]
    exact h
  refine ⟨(Array.getElem?_eq_some_iff.1 hh).1, ?_, ?_, ?_, ?_⟩ <;> simp [World.cell?, hh]

theorem push2 (B : Array Obj) (a b : Obj) : ((B.push a).push b)[B.size + 1]? = some b := by
  rw [show B.size + 1 = (B.push a).size by simp]; exact Array.getElem?_push_size
theorem cells_some {A : Array Value} {n : Nat} (h : n < A.size) : ∃ u, A[n]? = some u := ⟨_, Array.getElem?_eq_getElem h⟩

theorem setBlk_keeps {w : World} {g : Nat} (o : Obj) : Keeps g w (setBlk w g o) :=
  ⟨rfl, rfl, rfl, by rw [setBlk_size]; exact Nat.le_refl _, fun k hk hg => by rw [setBlk_heap, if_neg (Ne.symm hg)]⟩

theorem l4Pile_c (s : Int) (h0 : 0 ≤ s) (h1 : s ≤ 65535) (w : World) :
    Calls Try.prog 106 #[.int .i64 s] w fun e w' => ∃ g cap, e = .returned (.slice (some ⟨g, 0, none⟩) 81 cap) ∧ Ex w w' ∧ RowV 52 4 w.heap.size w' g cap 81 (cellsOf (pileR s)) := by
  go_enter Try.func106, Try.ntmps106
  go_wp2
  go_loopw [3, 4] (fun u v wr => ∃ (k g cap : Nat), k ≤ 81 ∧ v = .int .i64 k ∧ u = .slice (some ⟨g, 0, none⟩) k cap ∧ Ex w wr ∧ RowV 52 4 w.heap.size wr g cap k (cellsOf (firstCards k))) (fun _ v _ => 81 - (intOf v).toNat)
  case atStart => exact ⟨0, w.heap.size, 0, by omega, rfl, rfl, by repeat (first | exact Ex.refl _ | refine Ex.ext ?_ _ | refine Ex.alloc ?_ _ | refine Ex.drew ?_), RowV.start' _ _ _ _ rfl⟩
  case round =>
    obtain ⟨k, g, cap, hk, rfl, rfl, hE, hrow⟩ := hrel
    have HE := Lib.hid hE
    have HR := Lib.hid hrow
    clear hE hrow
    by_cases hlt : k < 81
    · go_wp2_with (first | (go_at_call 104; refine (l2At_c _ (by omega) (by omega) _).mono ?_; rintro e w' ⟨rfl, x, rfl⟩) | (at_builtin; refine wp_app rowC4 (nW := _) (by simp [go_sem]) rfl _ _ rfl rfl (HR.out.ex ((Ex.refl _).ext _)) 1 1 [.int .i64 (at_ k).a, .int .i64 (at_ k).b, .int .i64 (at_ k).c, .int .i64 (at_ k).d] rfl rfl (one4 _ _ _ _) (by omega) ?c2 ?c3 ?_; (case c2 => (unfold maxLen; omega)); (case c3 => omega); intro g' cap' wq hrow' hK hg'))
      go_roundw
      case rel =>
        have hb := HR.out.blk
        refine ⟨k + 1, g', cap', by omega, by go_num, rfl, Keeps.ex (HE.out.ext _) hK (by omega), ?_⟩
        rw [firstCards_succ, cellsOf_append]
        exact hrow'
      case measure => simp [intOf]; omega
    · have : k = 81 := by omega
      subst this
      go_wp2
      obtain ⟨wo, rfl⟩ : ∃ wo : World, wo = wr := ⟨_, rfl⟩
      go_loopw [0, 5] (fun u v wr => ∃ (i : Nat) (t : Int) (l : List C4), i ≤ 80 ∧ v = .int .i64 i ∧ u = .int .i64 t ∧ 0 ≤ t ∧ t ≤ 65535 ∧ l.length = 81 ∧ Ex w wr ∧ RowV 52 4 w.heap.size wr g cap 81 (cellsOf l) ∧ pileR s = shuffle i t l)
        (fun _ v _ => (intOf v).toNat)
      case atStart => exact ⟨80, s, firstCards 81, by omega, rfl, rfl, h0, h1, by simp, HE.out, HR.out, rfl⟩
      case round =>
        obtain ⟨i, t, l, hi, rfl, rfl, ht0, ht1, hl, hE, hrow, hf⟩ := hrel
        have HE' := Lib.hid hE
        have HR' := Lib.hid hrow
        have Hf := Lib.hid hf
        have Hl := Lib.hid hl
        clear hE hrow hf
        cases i with
        | zero =>
          simp only [Int.natCast_zero]
          go_wp2
          go_ret
          refine ⟨g, cap, rfl, HE'.out, ?_⟩
          rw [Hf.out, shuffle]
          exact HR'.out
        | succ j =>
          obtain ⟨A, hw, hA, hcap, hg, hc⟩ := HR'.out.open hl.symm
          have hkle := swapAt_le (behind t) (j + 1)
          have hk : (behind t / 8 % ((j : Int) + 1 + 1)) = (swapAt (behind t) (j + 1) : Int) := by
            unfold swapAt
            rw [Int.toNat_of_nonneg (Int.emod_nonneg _ (by omega))]
            simp
          have hbt := behind_bd t
          have Hs := Lib.hid (show pileR s = shuffle j (behind t) (swapL l (j + 1) (swapAt (behind t) (j + 1))) from Hf.out)
          generalize swapAt (behind t) (j + 1) = k at *
          obtain ⟨a0, a1, a2, a3⟩ := cellsOf_get l (j + 1) (by omega)
          obtain ⟨b0, b1, b2, b3⟩ := cellsOf_get l k (by omega)
          rw [← hc _ (by omega)] at a0 a1 a2 a3 b0 b1 b2 b3
          have HL1 := Lib.hid (show swapL l (j + 1) k = (l.set (j + 1) l[k]).set k l[j + 1] by simp [swapL, List.getD, show j + 1 < l.length by omega, show k < l.length by omega])
          have Hc := Lib.hid hc
          have HA := Lib.hid hA
          clear hc
          obtain ⟨bt0, bt1⟩ := hbt
          rw [hw]
          clear hw
          generalize l[j + 1] = za at *
          generalize l[k] = zb at *
          have hg0 : (0 : Int) < (j : Int) + 1 := by omega
          go_wp2_with (go_at_call 135; refine (l4Behind_c _ ht0 ht1 _).mono ?_; rintro e w' ⟨rfl, x, rfl⟩)
          simp only [hk]
          clear hk
          have ia : (0 : Int) ≤ (j : Int) + 1 := by omega
          have ib : (0 : Int) ≤ (k : Int) := by omega
          have ic : (j : Int) + 1 < 81 := by omega
          have id : (k : Int) < 81 := by omega
          go_region_held3 (fun w' => w'.cell? ⟨g, (j + 1) * 4, none⟩ = some (.int .i64 za.a) ∧ w'.cell? ⟨g, (j + 1) * 4 + 1, none⟩ = some (.int .i64 za.b) ∧ w'.cell? ⟨g, (j + 1) * 4 + 2, none⟩ = some (.int .i64 za.c) ∧ w'.cell? ⟨g, (j + 1) * 4 + 3, none⟩ = some (.int .i64 za.d) ∧
              w'.cell? ⟨g, k * 4, none⟩ = some (.int .i64 zb.a) ∧ w'.cell? ⟨g, k * 4 + 1, none⟩ = some (.int .i64 zb.b) ∧ w'.cell? ⟨g, k * 4 + 2, none⟩ = some (.int .i64 zb.c) ∧ w'.cell? ⟨g, k * 4 + 3, none⟩ = some (.int .i64 zb.d))
            (first | (go_simp; done) | go_keep) (fail)
          all_goals (rename_i hHd; clear hHd)
          all_goals simp only [show ∀ (b : Array Obj) (d : Nat), Ext.sz ⟨b, d⟩ = b.size from fun _ _ => rfl, ext_alloc]
          all_goals
            first
            | (obtain ⟨y, hy⟩ : ∃ y : Ext, y = ⟨(x.blocks.push (.cells #[.int .i64 za.a, .int .i64 za.b, .int .i64 za.c, .int .i64 za.d] 52)).push (.cells #[.int .i64 zb.a, .int .i64 zb.b, .int .i64 zb.c, .int .i64 zb.d] 52), x.drawn + 1⟩ := ⟨_, rfl⟩
               rw [← hy]
               have Fa : ∀ o, Box4 (ext (setBlk wr g o) y) (wr.heap.size + x.blocks.size) za.a za.b za.c za.d := fun o => ext_box _ _ _ _ (by rw [setBlk_size]) za (by rw [hy]; simp [Array.getElem?_push])
               have Fb : ∀ o, Box4 (ext (setBlk wr g o) y) (wr.heap.size + x.blocks.size + 1) zb.a zb.b zb.c zb.d := fun o => ext_box _ _ (x.blocks.size + 1) _ (by rw [setBlk_size]; omega) zb (by rw [hy]; exact push2 _ _ _)
               clear hy
               generalize wr.heap.size + x.blocks.size + 1 = yb at *
               generalize wr.heap.size + x.blocks.size = ya at *)
            | (obtain ⟨y, hy⟩ : ∃ y : Ext, y = ⟨(x.blocks.push (.cells #[.int .i64 zb.a, .int .i64 zb.b, .int .i64 zb.c, .int .i64 zb.d] 52)).push (.cells #[.int .i64 za.a, .int .i64 za.b, .int .i64 za.c, .int .i64 za.d] 52), x.drawn + 1⟩ := ⟨_, rfl⟩
               rw [← hy]
               have Fb : ∀ o, Box4 (ext (setBlk wr g o) y) (wr.heap.size + x.blocks.size) zb.a zb.b zb.c zb.d := fun o => ext_box _ _ _ _ (by rw [setBlk_size]) zb (by rw [hy]; simp [Array.getElem?_push])
               have Fa : ∀ o, Box4 (ext (setBlk wr g o) y) (wr.heap.size + x.blocks.size + 1) za.a za.b za.c za.d := fun o => ext_box _ _ (x.blocks.size + 1) _ (by rw [setBlk_size]; omega) za (by rw [hy]; exact push2 _ _ _)
               clear hy
               generalize wr.heap.size + x.blocks.size + 1 = ya at *
               generalize wr.heap.size + x.blocks.size = yb at *)
          all_goals
            have fa0 := fun o => (Fa o).c0
            have fa1 := fun o => (Fa o).c1
            have fa2 := fun o => (Fa o).c2
            have fa3 := fun o => (Fa o).c3
            have fb0 := fun o => (Fb o).c0
            have fb1 := fun o => (Fb o).c1
            have fb2 := fun o => (Fb o).c2
            have fb3 := fun o => (Fb o).c3
            clear Fa Fb
          all_goals
            go_upto_region 13 with (fail)
            obtain ⟨A1, hA1⟩ : ∃ A1, A1 = (((A.setIfInBounds ((j + 1) * 4) (.int .i64 zb.a)).setIfInBounds ((j + 1) * 4 + 1) (.int .i64 zb.b)).setIfInBounds ((j + 1) * 4 + 2) (.int .i64 zb.c)).setIfInBounds ((j + 1) * 4 + 3) (.int .i64 zb.d) := ⟨_, rfl⟩
            rw [← hA1]
            have hs1 : A1.size = cap * 4 := by rw [hA1]; simp only [Array.size_setIfInBounds]; exact HA.out
            have Hc1 := Lib.hid (show ∀ j', j' < (l.set (j + 1) zb).length * 4 → A1[j']? = (cellsOf (l.set (j + 1) zb))[j']? by
              rw [hA1, List.length_set]
              exact set_cells (i := j + 1) (c := zb) (by omega) (by rw [HA.out]; omega) Hc.out)
            obtain ⟨u0, e0⟩ := cells_some (A := A1) (n := k * 4) (by omega)
            obtain ⟨u1, e1⟩ := cells_some (A := A1) (n := k * 4 + 1) (by omega)
            obtain ⟨u2, e2⟩ := cells_some (A := A1) (n := k * 4 + 2) (by omega)
            obtain ⟨u3, e3⟩ := cells_some (A := A1) (n := k * 4 + 3) (by omega)
            have Hs1 := Lib.hid hs1
            clear hA1 hs1 a0 a1 a2 a3 b0 b1 b2 b3
            go_wp2
            go_roundw
            case rel =>
              have hgw := HR'.out.blk
              have hs1 := Hs1.out
              have e2 := set_cells (cs := l.set (j + 1) zb) (i := k) (c := za) (by simp; omega) (by rw [List.length_set]; omega) Hc1.out
              (repeat apply Exists.intro)
              refine ⟨?_, rfl⟩
              refine ⟨j, behind t, swapL l (j + 1) k, by omega, by go_num, rfl, bt0, bt1, by simp [Hl.out], ?_, ?_, Hs.out⟩
              · refine Keeps.ex (g := g) HE'.out ?_ hgw.1
                refine Keeps.trans (w' := setBlk wr g (.cells ((((A1.setIfInBounds (k * 4) (.int .i64 za.a)).setIfInBounds (k * 4 + 1) (.int .i64 za.b)).setIfInBounds (k * 4 + 2) (.int .i64 za.c)).setIfInBounds (k * 4 + 3) (.int .i64 za.d)) 52 (0, 0))) (setBlk_keeps _) ?_
                exact Ex.keeps (by exact by repeat (first | exact Ex.refl _ | refine Ex.ext ?_ _ | refine Ex.alloc ?_ _ | refine Ex.drew ?_)) g
              · rw [HL1.out]
                refine RowV.ex (w := setBlk wr g (.cells ((((A1.setIfInBounds (k * 4) (.int .i64 za.a)).setIfInBounds (k * 4 + 1) (.int .i64 za.b)).setIfInBounds (k * 4 + 2) (.int .i64 za.c)).setIfInBounds (k * 4 + 3) (.int .i64 za.d)) 52 (0, 0))) ?_ (by exact by repeat (first | exact Ex.refl _ | refine Ex.ext ?_ _ | refine Ex.alloc ?_ _ | refine Ex.drew ?_))
                refine HR'.out.shut Hl.out.symm (by simp) (by simp only [Array.size_setIfInBounds]; exact hs1) ?_
                simpa using e2
            case measure => simp [intOf]
end Go.Proofs.Ytkelmfdbcicojaa
