/- The walks of DealSizes, and of the law on it. -/
import Derived.Test.YtkelmfdbcicojaaDStep
namespace Go.Proofs.Ytkelmfdbcicojaa
set_option linter.unusedSimpArgs false
set_option linter.unusedVariables false
set_option maxHeartbeats 1000000
set_option maxRecDepth 100000
open Go.RowKit


theorem Row.keepsB {lo hi cap b : Nat} {w w' : World} {p : Option Addr} {cs : List C4} (h : Row lo hi w p cap cs) (k : Keeps b w w') (hb : ∀ a, p = some a → a.block ≠ b) : Row lo hi w' p cap cs := by
  rcases h.blk with ⟨rfl, rfl, rfl⟩ | ⟨g, cur, rfl, h1, h2, h3, h4⟩
  · exact Row.nil _ _ _
  · exact ⟨RowV.keeps (g := g) h.own k (hb _ rfl), h.2⟩
theorem Row.past {lo hi cap b : Nat} {w : World} {p : Option Addr} {cs : List C4} (h : Row lo hi w p cap cs) (hb : b < lo) : ∀ a, p = some a → a.block ≠ b := by
  rcases h.blk with ⟨rfl, rfl, rfl⟩ | ⟨g, cur, rfl, h1, h2, h3, h4⟩
  · simp
  · intro a e; cases e; simp; omega

theorem RowV.lay1 {W : World} {g lo : Nat} {x : Int} (hg : g = W.heap.size) (hlo : lo ≤ g) : RowV 3 1 lo (W.alloc (.cells #[.int .i64 x] 3)) g 1 1 (intVals [x]) := by
  subst hg
  exact ⟨rfl, Or.inr ⟨W.heap.size, 1, _, rfl, hlo, heap_alloc_new W _, Nat.le_refl _, by unfold maxLen; omega, rfl, rfl⟩⟩

def sizesR (s : Int) : List Int := if isSeed s then 12 :: sizesP s 1000 12 ((pileR s).take 12) else []
theorem sizesP_len (s : Int) : ∀ (f : Nat) (n : Int) (cs : List C4), (sizesP s f n cs).length ≤ f
  | 0, _, _ => by simp [sizesP]
  | f + 1, n, cs => by
    unfold sizesP; split
    · simp
    · have := sizesP_len s f (stepN n cs) (stepL s n cs); simp; omega
theorem sizesR_len (s : Int) : (sizesR s).length ≤ 1001 := by
  unfold sizesR; split
  · have := sizesP_len s 1000 12 ((pileR s).take 12); simp; omega
  · simp
theorem over_eq (n : Int) (cs : List C4) : overP n cs = overB n cs := by
  simp [overP, overB, capB, Bool.eq_iff_iff]
theorem sizesP_stop {s : Int} {f : Nat} {n : Int} {cs : List C4} (h : overB n cs = true) : sizesP s f n cs = [] := by
  cases f with
  | zero => rfl
  | succ f => simp [sizesP, over_eq, h]
theorem sizesP_go {s : Int} {f : Nat} {n : Int} {cs : List C4} (hD : DealOk s n cs) (h : overB n cs = false) (hf : left n cs ≤ f) :
    ∃ f', left (stepN n cs) (stepL s n cs) ≤ f' ∧ sizesP s f n cs = ((stepL s n cs).length : Int) :: sizesP s f' (stepN n cs) (stepL s n cs) := by
  have ho : ¬ (n = 81 ∧ linesR cs = []) := by
    have e := over_eq n cs
    rw [h] at e
    exact of_decide_eq_false e
  have hlt := left_step hD ho
  cases f with
  | zero => omega
  | succ f => exact ⟨f, by omega, by simp [sizesP, over_eq, h]⟩
def slLen : Value → Nat
  | .slice _ n _ => n
  | _ => 0

theorem isStuck2_c (s n : Int) (cs : List C4) (p : Option Addr) (cap : Nat) (w : World) (hz : Sl w p cs) (hD : DealOk s n cs) :
    Calls Try.prog 67 #[.agg #[.int .i64 s, .int .i64 n, .slice p cs.length cap]] w fun e w' => e = .returned (.bool (capB cs)) ∧ Ex w w' := by
  have hn : cs.length ≤ 1000 := by have := hD.len; have := hD.n1; omega
  have Hz := Lib.hid hz
  have Hd := Lib.hid hD
  have hb := lines_small hn
  have hcapd : capB cs = decide ((linesR cs).length = 0) := rfl
  rw [hcapd]
  clear hcapd hz hD
  obtain ⟨m, hN⟩ : ∃ m, m = (linesR cs).length := ⟨_, rfl⟩
  rw [← hN] at hb ⊢
  have HN := Lib.hid hN
  clear hN
  go_enter Try.func67, Try.ntmps67
  go_wp2_with (go_at_call 74; refine (linesIn_c _ _ _ _ hn Hd.out.nodup Hd.out.ok (Hz.out.ex (by repeat (first | exact Ex.refl _ | refine Ex.ext ?_ _ | refine Ex.alloc ?_ _ | refine Ex.drew ?_)))).mono ?_; rw [← HN.out]; rintro e w' ⟨g, cap', rfl, ⟨x, rfl⟩, _⟩)
  go_ret
  exact ⟨ret_bool (by rw [Bool.eq_iff_iff]; simp; try omega), by repeat (first | exact Ex.refl _ | refine Ex.ext ?_ _ | refine Ex.alloc ?_ _ | refine Ex.drew ?_)⟩
theorem isOver2_c (s n : Int) (cs : List C4) (p : Option Addr) (cap : Nat) (w : World) (hz : Sl w p cs) (hD : DealOk s n cs) :
    Calls Try.prog 68 #[.agg #[.int .i64 s, .int .i64 n, .slice p cs.length cap]] w fun e w' => e = .returned (.bool (overB n cs)) ∧ Ex w w' := by
  have h0 := hD.n0
  have h1 := hD.n1
  have H := Lib.hid (fun w hz => isStuck2_c s n cs p cap w hz hD)
  have Hz := Lib.hid hz
  clear hz hD
  cases h : capB cs
  · have hR : overB n cs = false := by simp [overB, h]
    rw [hR]
    clear hR
    go_enter Try.func68, Try.ntmps68
    go_wp2_with (go_at_call 67; refine (H.out _ (Hz.out.ex (by repeat (first | exact Ex.refl _ | refine Ex.ext ?_ _ | refine Ex.alloc ?_ _ | refine Ex.drew ?_)))).mono ?_; rw [h]; rintro e w' ⟨rfl, x, rfl⟩)
    go_ret
    exact ⟨rfl, by repeat (first | exact Ex.refl _ | refine Ex.ext ?_ _ | refine Ex.alloc ?_ _ | refine Ex.drew ?_)⟩
  · have hR : overB n cs = decide (n = 81) := by simp [overB, h]
    rw [hR]
    clear hR
    go_enter Try.func68, Try.ntmps68
    go_wp2_with (go_at_call 67; refine (H.out _ (Hz.out.ex (by repeat (first | exact Ex.refl _ | refine Ex.ext ?_ _ | refine Ex.alloc ?_ _ | refine Ex.drew ?_)))).mono ?_; rw [h]; rintro e w' ⟨rfl, x, rfl⟩)
    go_ret
    exact ⟨ret_bool (by rw [Bool.eq_iff_iff]; simp), by repeat (first | exact Ex.refl _ | refine Ex.ext ?_ _ | refine Ex.alloc ?_ _ | refine Ex.drew ?_)⟩
theorem l4Over2_c (s n : Int) (cs : List C4) (p : Option Addr) (cap : Nat) (w : World) (hz : Sl w p cs) (hD : DealOk s n cs) :
    Calls Try.prog 76 #[.agg #[.int .i64 s, .int .i64 n, .slice p cs.length cap]] w fun e w' => e = .returned (.bool (overB n cs)) ∧ Ex w w' := by
  have hn : cs.length ≤ 1000 := by have := hD.len; have := hD.n1; omega
  have Hz := Lib.hid hz
  have Hd := Lib.hid hD
  clear hz hD
  by_cases h : n = 81
  · subst h
    have hR : overB 81 cs = decide ((linesR cs).length = 0) := by simp [overB, capB]
    rw [hR]
    have hb := lines_small hn
    obtain ⟨m, hN⟩ : ∃ m, m = (linesR cs).length := ⟨_, rfl⟩
    rw [← hN] at hb ⊢
    have HN := Lib.hid hN
    clear hN hR
    go_enter Try.func76, Try.ntmps76
    go_wp2_with (go_at_call 64; refine (l4Lines_c _ _ _ _ hn Hd.out.nodup Hd.out.ok (Hz.out.ex (by repeat (first | exact Ex.refl _ | refine Ex.ext ?_ _ | refine Ex.alloc ?_ _ | refine Ex.drew ?_)))).mono ?_; rw [← HN.out]; rintro e w' ⟨g, cap', rfl, ⟨x, rfl⟩, _⟩)
    go_ret
    exact ⟨ret_bool (by rw [Bool.eq_iff_iff]; simp; try omega), by repeat (first | exact Ex.refl _ | refine Ex.ext ?_ _ | refine Ex.alloc ?_ _ | refine Ex.drew ?_)⟩
  · have hR : overB n cs = false := by simp [overB, h]
    rw [hR]
    clear hR
    go_enter Try.func76, Try.ntmps76
    go_wp2
    go_ret
    exact ⟨rfl, by repeat (first | exact Ex.refl _ | refine Ex.ext ?_ _ | refine Ex.alloc ?_ _ | refine Ex.drew ?_)⟩

theorem nd_ok {s : Int} (h : isSeed s = true) : DealOk s 12 ((pileR s).take 12) := by
  have hb := isSeed_bd h
  exact ⟨hb.1, hb.2, by omega, by omega, (pileR_nodup s).sublist (List.take_sublist _ _), fun c hc => hc, by rw [take12]; omega, fun c hc => pileR_ok s c (List.mem_of_mem_take hc)⟩

theorem specDealSizes_c (s : Int) (w : World) :
    Calls Try.prog 29 #[.int .i64 s] w fun e w' => ∃ q cap', e = .returned (.tuple #[.slice q (sizesR s).length cap', .bool (isSeed s)]) ∧ Ex w w' ∧ RowI w.heap.size w'.heap.size w' q cap' (sizesR s) := by
  have hlen := sizesR_len s
  cases h : isSeed s
  · have hR : sizesR s = [] := by simp [sizesR, h]
    rw [hR]
    clear hlen
    go_enter Try.func29, Try.ntmps29
    go_wp2_with (go_at_call 79; refine (specNewDeal_c _ _).mono ?_; rw [h]; rintro e w1 ⟨p, cap, rfl, hx, hr⟩)
    go_ret2
    have hE : Ex w _ := (((Ex.refl w).alloc (.cells #[] 3)).trans hx).alloc (.cells #[.int .i64 (ndS s), .int .i64 (ndN s), .slice p (ndL s).length cap] 26)
    exact ⟨some ⟨w.heap.size, 0, none⟩, 0, by simp, hE, RowV.rowI (zs := []) ((RowV.start w 3 1).ex (hx.alloc _)) rfl⟩
  · have hns : ndS s = s := by simp [ndS, h]
    have hnn : ndN s = 12 := by simp [ndN, h]
    have hnl : ndL s = (pileR s).take 12 := by simp [ndL, h]
    have h12 := take12 s
    have hok := nd_ok h
    have hsz : sizesR s = 12 :: sizesP s 1000 12 ((pileR s).take 12) := by simp [sizesR, h]
    generalize (pileR s).take 12 = T at *
    go_enter Try.func29, Try.ntmps29
    go_wp2_with (go_at_call 79; refine (specNewDeal_c _ _).mono ?_; rw [h, hns, hnn, hnl, h12]; rintro e w1 ⟨p, cap, rfl, hx, hr⟩)
    have hB0 : w.heap.size ≤ w1.heap.size := Nat.le_trans (by simp) hx.below.size
    go_loopw [4] (fun v wr => ∃ (L : List Int) (g c : Nat) (n : Int) (cs : List C4) (p : Option Addr) (cap f : Nat), v = .slice (some ⟨g, 0, none⟩) L.length c ∧ Ex w wr ∧ wr.heap[w1.heap.size]? = some (.cells #[.int .i64 s, .int .i64 n, .slice p cs.length cap] 26 (0, 0)) ∧ DealOk s n cs ∧
      Row w.heap.size wr.heap.size wr p cap cs ∧ (∀ a, p = some a → a.block ≠ g) ∧ (∀ a, p = some a → a.block ≠ w1.heap.size) ∧ RowV 3 1 w.heap.size wr g c L.length (intVals L) ∧ g ≠ w1.heap.size ∧ left n cs ≤ f ∧ sizesR s = L ++ (cs.length : Int) :: sizesP s f n cs) (fun v _ => (sizesR s).length - slLen v)
    case atStart =>
      have hw0 : w.heap.size < w1.heap.size := Nat.lt_of_lt_of_le (by simp) hx.below.size
      refine ⟨[], w.heap.size, 0, 12, T, p, cap, 1000, rfl, Ex.trans ((Ex.refl w).alloc (.cells #[] 3)) (hx.alloc _), by rw [h12]; exact alloc_at rfl, hok, ?_, hr.past (by simp), ?_, (RowV.start w 3 1).ex (hx.alloc _), by omega, by rw [left, h12]; decide, ?_⟩
      · exact (hr.ex ((Ex.refl _).alloc _)).mono (by simp) (by simp)
      · exact fun a e => by have := hr.top a e; omega
      · simp [hsz, h12]
    case round =>
      obtain ⟨L, g, c, n, cs, p', cap', f, rfl, hE, hb, hd, hp, hpg, hpB, hrow, hgB, hlf, hf⟩ := hrel
      have HE := Lib.hid hE
      have HB := Lib.hid hb
      have HP := Lib.hid hp
      have HW := Lib.hid hrow
      have Hf := Lib.hid hf
      have Hd := Lib.hid hd
      have b0 := blk_cell hb 0
      have b1 := blk_cell hb 1
      have b2 := blk_cell hb 2
      simp at b0 b1 b2
      have hLl : L.length ≤ 1001 := by
        have e1 := congrArg List.length hf
        simp at e1
        omega
      have hcl : cs.length ≤ 81 := by have := hd.len; have := hd.n1; omega
      have hBw : w1.heap.size < wr.heap.size := (Array.getElem?_eq_some_iff.1 hb).1
      clear hE hb hp hrow hf hd
      cases hov : overB n cs
      ·
        obtain ⟨f', hf', hs'⟩ := sizesP_go Hd.out hov hlf
        have Hs := Lib.hid hs'
        clear hs'
        go_wp2_with (first | (go_at_call 76; refine (l4Over2_c _ _ _ _ _ _ (HP.out.sl.ex (by exact by repeat (first | exact Ex.refl _ | refine Ex.ext ?_ _ | refine Ex.alloc ?_ _ | refine Ex.drew ?_))) Hd.out).mono ?_; rw [hov]; rintro e w' ⟨rfl, x, rfl⟩) | ((at_builtin; refine wp_app rowInt (nW := _) (by simp [go_sem]) rfl _ _ rfl rfl (HW.out.ex (by exact by repeat (first | exact Ex.refl _ | refine Ex.ext ?_ _ | refine Ex.alloc ?_ _ | refine Ex.drew ?_))) 1 1 [.int .i64 (cs.length : Int)] rfl rfl (one1 _) (by omega) ?c2 ?c3 ?_; (case c2 => (unfold maxLen; omega)); (case c3 => omega); intro g' cap'' wq hrow' hK hg'); have hbq := hK.blk (Ex.blk (w := wr) (by exact by repeat (first | exact Ex.refl _ | refine Ex.ext ?_ _ | refine Ex.alloc ?_ _ | refine Ex.drew ?_)) HB.out) (Ne.symm hgB); have q0 := blk_cell hbq 0; have q1 := blk_cell hbq 1; have q2 := blk_cell hbq 2; simp at q0 q1 q2; have HPq := Lib.hid (Row.keepsB (HP.out.ex (by exact by repeat (first | exact Ex.refl _ | refine Ex.ext ?_ _ | refine Ex.alloc ?_ _ | refine Ex.drew ?_))) hK hpg)) |
          (go_at_call 77; refine (l4Step_c _ _ _ _ _ _ Hd.out (HPq.out.src.ex (by exact by repeat (first | exact Ex.refl _ | refine Ex.ext ?_ _ | refine Ex.alloc ?_ _ | refine Ex.drew ?_)))).mono ?_; rintro e w6 ⟨r, c6, rfl, hE6, hr6⟩; have hb6 := hE6.blk (Ex.blk (w := wq) (by exact by repeat (first | exact Ex.refl _ | refine Ex.ext ?_ _ | refine Ex.alloc ?_ _ | refine Ex.drew ?_)) hbq); have hlt6 := (Array.getElem?_eq_some_iff.1 hb6).1; rw [setBlk_self hb6]))
        have hrb := hrow'.blk
        have hgl := HW.out.blk
        have hg2 : g' ≠ w1.heap.size := by rcases hg' with q | q; (rw [q]; exact hgB); (simp [go_sem] at q; omega)
        have hBq : w1.heap.size < wq.heap.size := (Array.getElem?_eq_some_iff.1 hbq).1
        refine ⟨⟨L ++ [(cs.length : Int)], g', cap'', stepN n cs, stepL s n cs, r, c6, f', by simp, ?_, ?_, Hd.out.step, ?_, ?_, ?_, ?_, hg2, hf', ?_⟩, ?_⟩
        · exact Keeps.ex ((Keeps.ex (HE.out.trans (by exact by repeat (first | exact Ex.refl _ | refine Ex.ext ?_ _ | refine Ex.alloc ?_ _ | refine Ex.drew ?_))) hK hgl.1).trans hE6) (setBlk_keeps _) hB0
        · simp [setBlk_heap]; omega
        · exact (hr6.keeps (setBlk_keeps _) hBq).mono (Keeps.ex (HE.out.trans (by exact by repeat (first | exact Ex.refl _ | refine Ex.ext ?_ _ | refine Ex.alloc ?_ _ | refine Ex.drew ?_))) hK hgl.1).below.size (by rw [setBlk_size]; exact Nat.le_refl _)
        · exact hr6.past hrb.2
        · exact hr6.past hBq
        · rw [List.length_append, intVals_append]; exact (hrow'.ex hE6).keeps (setBlk_keeps _) hg2
        · rw [Hf.out, Hs.out]; simp
        · rw [Hf.out, Hs.out]; simp [slLen]; omega
      ·
        have hst : sizesR s = L ++ [(cs.length : Int)] := by rw [Hf.out, sizesP_stop hov]
        go_wp2_with (first | (go_at_call 76; refine (l4Over2_c _ _ _ _ _ _ (HP.out.sl.ex (by exact by repeat (first | exact Ex.refl _ | refine Ex.ext ?_ _ | refine Ex.alloc ?_ _ | refine Ex.drew ?_))) Hd.out).mono ?_; rw [hov]; rintro e w' ⟨rfl, x, rfl⟩) | (at_builtin; refine wp_app rowInt (nW := _) (by simp [go_sem]) rfl _ _ rfl rfl (HW.out.ex (by exact by repeat (first | exact Ex.refl _ | refine Ex.ext ?_ _ | refine Ex.alloc ?_ _ | refine Ex.drew ?_))) 1 1 [.int .i64 (cs.length : Int)] rfl rfl (one1 _) (by omega) ?c2 ?c3 ?_; (case c2 => (unfold maxLen; omega)); (case c3 => omega); intro g' cap'' wq hrow' hK hg'))
        go_ret2
        rw [hst]
        exact ⟨some ⟨g', 0, none⟩, cap'', by simp, Keeps.ex (HE.out.trans (by exact by repeat (first | exact Ex.refl _ | refine Ex.ext ?_ _ | refine Ex.alloc ?_ _ | refine Ex.drew ?_))) hK HW.out.blk.1, RowV.rowI (by rw [List.length_append, intVals_append]; exact hrow') rfl⟩

theorem implDealSizes_c (s : Int) (w : World) :
    Calls Try.prog 30 #[.int .i64 s] w fun e w' => ∃ q cap', e = .returned (.tuple #[.slice q (sizesR s).length cap', .bool (isSeed s)]) ∧ Ex w w' ∧ RowI w.heap.size w'.heap.size w' q cap' (sizesR s) := by
  have hlen := sizesR_len s
  cases h : isSeed s
  · have hR : sizesR s = [] := by simp [sizesR, h]
    rw [hR]
    clear hlen
    go_enter Try.func30, Try.ntmps30
    go_wp2_with (go_at_call 80; refine (isSeed_c _ _).mono ?_; rintro e w' ⟨rfl, x, rfl⟩; rw [h])
    go_ret2
    exact ⟨none, 0, by simp, by repeat (first | exact Ex.refl _ | refine Ex.ext ?_ _ | refine Ex.alloc ?_ _ | refine Ex.drew ?_), RowI.nil _ _ _⟩
  · have hb := isSeed_bd h
    have h12 := take12 s
    have hok := nd_ok h
    have hsz : sizesR s = 12 :: sizesP s 1000 12 ((pileR s).take 12) := by simp [sizesR, h]
    have hN := Lib.hid (newDeal_c s hb.1 hb.2)
    generalize (pileR s).take 12 = T at *
    go_enter Try.func30, Try.ntmps30
    go_wp2_with (first | (go_at_call 80; refine (isSeed_c _ _).mono ?_; rintro e w' ⟨rfl, x, rfl⟩; rw [h]) | (go_at_call 81; refine (hN.out _).mono ?_; rintro e w1 ⟨p, cap, rfl, hx, hr⟩))
    have hx1 : Ex w w1 := Ex.trans (by exact by repeat (first | exact Ex.refl _ | refine Ex.ext ?_ _ | refine Ex.alloc ?_ _ | refine Ex.drew ?_)) hx
    have hB0 : w.heap.size ≤ w1.heap.size := hx1.below.size
    go_loopw [5] (fun v wr => ∃ (L : List Int) (g c : Nat) (n : Int) (cs : List C4) (p : Option Addr) (cap f : Nat), v = .slice (some ⟨g, 0, none⟩) L.length c ∧ Ex w wr ∧ wr.heap[w1.heap.size]? = some (.cells #[.int .i64 s, .int .i64 n, .slice p cs.length cap] 26 (0, 0)) ∧ DealOk s n cs ∧
      Row w.heap.size wr.heap.size wr p cap cs ∧ (∀ a, p = some a → a.block ≠ g) ∧ (∀ a, p = some a → a.block ≠ w1.heap.size) ∧ RowV 3 1 w.heap.size wr g c L.length (intVals L) ∧ g ≠ w1.heap.size ∧ left n cs ≤ f ∧ sizesR s = L ++ sizesP s f n cs) (fun v _ => (sizesR s).length - slLen v)
    case atStart =>
      have e12 : ((12 : Nat) : Int) = 12 := rfl
      refine ⟨[12], w1.heap.size + 1, 1, 12, T, p, cap, 1000, rfl, (hx1.alloc _).alloc _, by rw [h12]; exact up1 (alloc_at rfl), hok, ?_, ?_, ?_, RowV.lay1 (by simp) (by omega), by omega, by rw [left, h12]; decide, by rw [hsz]; rfl⟩
      · exact (hr.ex (((Ex.refl _).alloc _).alloc _)).mono (by simp [ext_size]) (by simp; omega)
      · exact fun a e => by have := hr.top a e; omega
      · exact fun a e => by have := hr.top a e; omega
    case round =>
      obtain ⟨L, g, c, n, cs, p', cap', f, rfl, hE, hb, hd, hp, hpg, hpB, hrow, hgB, hlf, hf⟩ := hrel
      have HE := Lib.hid hE
      have HB := Lib.hid hb
      have HP := Lib.hid hp
      have HW := Lib.hid hrow
      have Hf := Lib.hid hf
      have Hd := Lib.hid hd
      have b0 := blk_cell hb 0
      have b1 := blk_cell hb 1
      have b2 := blk_cell hb 2
      simp at b0 b1 b2
      have hLl : L.length ≤ 1001 := by
        have e1 := congrArg List.length hf
        simp at e1
        omega
      have hcl : cs.length ≤ 81 := by have := hd.len; have := hd.n1; omega
      have hBw : w1.heap.size < wr.heap.size := (Array.getElem?_eq_some_iff.1 hb).1
      clear hE hb hp hrow hf hd
      cases hov : overB n cs
      ·
        obtain ⟨f', hf', hs'⟩ := sizesP_go Hd.out hov hlf
        have Hs := Lib.hid hs'
        clear hs'
        go_wp2_with (first | (go_at_call 68; refine (isOver2_c _ _ _ _ _ _ (HP.out.sl.ex (by exact by repeat (first | exact Ex.refl _ | refine Ex.ext ?_ _ | refine Ex.alloc ?_ _ | refine Ex.drew ?_))) Hd.out).mono ?_; rw [hov]; rintro e w' ⟨rfl, x, rfl⟩) |
          (go_at_call 78; refine (step_c _ _ _ _ _ _ Hd.out (HP.out.src.ex (by exact by repeat (first | exact Ex.refl _ | refine Ex.ext ?_ _ | refine Ex.alloc ?_ _ | refine Ex.drew ?_)))).mono ?_; rintro e w6 ⟨r, c6, tb, rfl, hE6, hr6⟩; have hb6 := hE6.blk (Ex.blk (w := wr) (by exact by repeat (first | exact Ex.refl _ | refine Ex.ext ?_ _ | refine Ex.alloc ?_ _ | refine Ex.drew ?_)) HB.out); have hlt6 := (Array.getElem?_eq_some_iff.1 hb6).1; have hE7 : Ex wr w6 := Ex.trans (by exact by repeat (first | exact Ex.refl _ | refine Ex.ext ?_ _ | refine Ex.alloc ?_ _ | refine Ex.drew ?_)) hE6; have HW6 := Lib.hid (RowV.keeps (HW.out.ex hE7) (setBlk_keeps (.cells #[.int .i64 s, .int .i64 (stepN n cs), .slice r (stepL s n cs).length c6] 26 (0, 0))) hgB); rw [setBlk_self hb6]) | (at_builtin; refine wp_app rowInt (nW := _) (by simp [go_sem]) rfl _ _ rfl rfl (HW6.out.ex (by exact by repeat (first | exact Ex.refl _ | refine Ex.ext ?_ _ | refine Ex.alloc ?_ _ | refine Ex.drew ?_))) 1 1 [.int .i64 ((stepL s n cs).length : Int)] rfl rfl (one1 _) (by omega) ?c2 ?c3 ?_; (case c2 => (unfold maxLen; omega)); (case c3 => omega); intro g' cap'' wq hrow' hK hg'))
        have hrb := hrow'.blk
        have hgl := HW.out.blk
        have hg2 : g' ≠ w1.heap.size := by rcases hg' with q | q; (rw [q]; exact hgB); (simp [go_sem] at q; omega)
        have hrw : wr.heap.size ≤ w6.heap.size := hE7.below.size
        have hrg : ∀ a, r = some a → a.block ≠ g := hr6.past (by simp [go_sem]; omega)
        refine ⟨⟨L ++ [((stepL s n cs).length : Int)], g', cap'', stepN n cs, stepL s n cs, r, c6, f', by simp, ?_, ?_, Hd.out.step, ?_, ?_, ?_, ?_, hg2, hf', ?_⟩, ?_⟩
        · exact Keeps.ex (Keeps.ex (HE.out.trans hE7) (setBlk_keeps _) hB0) hK hgl.1
        · exact hK.blk (by simp [setBlk_heap]; omega) (Ne.symm hgB)
        · exact ((Row.keeps hr6 (setBlk_keeps _) (by simp [go_sem]; omega)).keepsB hK hrg).mono (by simp [go_sem]; omega) (by have := hK.size; simp [go_sem] at this; exact this)
        · intro a e
          rcases hg' with q | q
          · rw [q]; exact hrg a e
          · have := hr6.top a e; simp [go_sem] at q; omega
        · exact hr6.past (by simp [go_sem]; omega)
        · rw [List.length_append, intVals_append]; exact hrow'
        · rw [Hf.out, Hs.out]; simp
        · rw [Hf.out, Hs.out]; simp [slLen]; omega
      ·
        have hst : sizesR s = L := by rw [Hf.out, sizesP_stop hov]; simp
        go_wp2_with (first | (go_at_call 68; refine (isOver2_c _ _ _ _ _ _ (HP.out.sl.ex (by exact by repeat (first | exact Ex.refl _ | refine Ex.ext ?_ _ | refine Ex.alloc ?_ _ | refine Ex.drew ?_))) Hd.out).mono ?_; rw [hov]; rintro e w' ⟨rfl, x, rfl⟩))
        go_ret2
        rw [hst]
        exact ⟨some ⟨g, 0, none⟩, c, by simp, HE.out.trans (by exact by repeat (first | exact Ex.refl _ | refine Ex.ext ?_ _ | refine Ex.alloc ?_ _ | refine Ex.drew ?_)), RowV.rowI (HW.out.ex (by exact by repeat (first | exact Ex.refl _ | refine Ex.ext ?_ _ | refine Ex.alloc ?_ _ | refine Ex.drew ?_))) rfl⟩

theorem fnExactDealSizes_walk (s : Int) (hs : (Lit.int .i64 s).wf = true) (w : World) : Calls Try.prog 6 #[.int .i64 s] w fun e w' => e = .returned (.bool true) ∧ Below w.heap.size w w' := by
  clear hs
  have hlen := sizesR_len s
  go_enter Try.func6, Try.ntmps6
  go_wp2_with (go_at_call 29; refine (specDealSizes_c _ _).mono ?_; rintro e w1 ⟨p, cap, rfl, hx1, hr⟩)
  go_wp2_with (go_at_call 30; refine (implDealSizes_c _ _).mono ?_; rintro e w2 ⟨p1, cap1, rfl, hx2, hr1⟩; have hr := hr.ex hx2)
  go_wp2_with (go_at_call 31; refine (eqIntS_c _ _ _ _ _ _ _ (by omega) (by omega) hr1.sl hr.sl).mono ?_; rintro e w3 ⟨rfl, hx3⟩; have hr := hr.ex hx3; have hr1 := hr1.ex hx3)
  go_wp2_with (go_at_call 32; refine (markIntS_c _ _ _ _ _ _ _ (by omega) (by omega) (by omega) hr1).mono ?_; rintro e w4 ⟨rfl, hr1, ha⟩; have hr := ha.rowI hr (Or.inl (Nat.le_refl _)))
  go_wp2_with (go_at_call 33; refine (heldIntS_c _ _ _ _ _ (by omega) (by omega) (by omega) hr1.sl).mono ?_; rintro e w5 ⟨rfl, hx5⟩; have hr := hr.ex hx5; have hr1 := hr1.ex hx5)
  go_wp2_with (go_at_call 30; refine (implDealSizes_c _ _).mono ?_; rintro e w6 ⟨p2, cap2, rfl, hx6, hr2⟩; have hr := hr.ex hx6; have hr1 := hr1.ex hx6)
  go_wp2_with (go_at_call 31; refine (eqIntS_c _ _ _ _ _ _ _ (by omega) (by omega) hr2.sl hr.sl).mono ?_; rintro e w7 ⟨rfl, hx7⟩; have hr1 := hr1.ex hx7)
  go_wp2_with (go_at_call 33; refine (heldIntS_c _ _ _ _ _ (by omega) (by omega) (by omega) hr1.sl).mono ?_; rintro e w8 ⟨rfl, hx8⟩)
  go_ret
  refine ⟨rfl, ?_⟩
  have h3 : Ex w w3 := (by repeat (first | exact Ex.refl _ | assumption | refine Ex.ext ?_ _ | refine Ex.alloc ?_ _ | refine Ex.drew ?_ | refine Ex.trans ?_ (by assumption)))
  have h8 : Ex w4 w8 := (by repeat (first | exact Ex.refl _ | assumption | refine Ex.ext ?_ _ | refine Ex.alloc ?_ _ | refine Ex.drew ?_ | refine Ex.trans ?_ (by assumption)))
  exact below_ex (below_apart h3.below ha hx1.below.size) h8
end Go.Proofs.Ytkelmfdbcicojaa
