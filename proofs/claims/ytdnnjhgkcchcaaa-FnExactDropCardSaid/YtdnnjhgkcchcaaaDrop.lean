/- The walks of DropCard. -/
import Derived.Test.YtdnnjhgkcchcaaaCapLn
import Derived.Test.YtdnnjhgkcchcaaaLinesP
import Derived.Test.YtdnnjhgkcchcaaaOwn
import Derived.Test.YtdnnjhgkcchcaaaDealA
import Derived.Lib.SliceRun
namespace Go.Proofs.Ytdnnjhgkcchcaaa
set_option linter.unusedSimpArgs false
set_option linter.unusedVariables false
set_option maxHeartbeats 1000000
set_option maxRecDepth 100000
open Go.RowKit

/-- A list without the element at a place. -/
def dropAt (cs : List C4) (i : Nat) : List C4 := cs.take i ++ cs.drop (i + 1)
theorem dropAt_length {cs : List C4} {i : Nat} (h : i < cs.length) : (dropAt cs i).length = cs.length - 1 := by
  simp only [dropAt, List.length_append, List.length_take, List.length_drop]; omega
theorem dropAt_low {cs : List C4} {i m : Nat} (h : m < i) (hi : i < cs.length) (hm : m < (dropAt cs i).length) : (dropAt cs i)[m] = cs[m]'(by omega) := by
  simp only [dropAt]
  rw [List.getElem_append_left (by simp; omega), List.getElem_take]
theorem dropAt_high {cs : List C4} {i m : Nat} (h : i ≤ m) (hm : m + 1 < cs.length) (hm' : m < (dropAt cs i).length) : (dropAt cs i)[m] = cs[m + 1] := by
  simp only [dropAt]
  rw [List.getElem_append_right (by simp; omega), List.getElem_drop]
  congr 1
  simp; omega

/-- append of a slice of cards to a row of the call's own, at a step of a region that draws its order. -/
theorem step_apps {W0 W : World} {B : Nat} (hB : B = W0.heap.size) (hE : Ex W0 W)
    {ops : Array Oper} {o : Oper} {a : Act} {K : Act → World → Prop} {Q : Exit → Act → World → Prop} {Ep : Prop} (hgd : o.guard = none) (s x : Operand)
    (ho : o.op = .call { callee := .builtin .append, args := #[s, x], argTypes := #[22, 22] })
    (v : Value) (n : Nat) (xs : List C4) (hs : a.eval s = v) (hown : W.ownsRow B 48 4 v n (cellsOf xs))
    (b off m c : Nat) (news : List C4) (hx : a.eval x = .slice (some ⟨b, off, none⟩) m c) (hm : news.length = m) (hz : Sl W (some ⟨b, off, none⟩) news)
    (h63 : n + m ≤ 1000000000000)
    (h : ∀ p cap w', w'.ownsRow B 48 4 (.slice p (n + m) cap) (n + m) (cellsOf (xs ++ news)) → (∀ a, p = some a → a.block < w'.heap.size) → Ex W0 w' → K (a.put o.dst (.slice p (n + m) cap)) w') :
    if Region.wanted o (yielded ops a.tmps) = true then Oper.wp Try.prog o a W K Q else Ep := by
  have hw : Region.wanted o (yielded ops a.tmps) = true := by simp [Region.wanted, hgd]
  rw [if_pos hw]
  subst hB
  subst hm
  obtain ⟨i, z, hi, hzz, hsize, hby, hzs⟩ := rowC4.info
  refine wp_append_own _ s x 22 ho W0.heap.size 48 i z 4 32 rowC4.under hi hzz hsize hby hzs rowC4.pos v n (cellsOf xs) hs hown ⟨b, off, none⟩ news.length c (cellsOf news) hx (cellsOf_length news) hz.cells (cellsOf_one news) (by unfold maxLen; omega) (by omega) hE.below.size (fun v' w' hown' hg _ => ?_)
  have hbel : Below W0.heap.size W0 w' := hE.below.grown hg hE.below.size (fun k hk => (hown.lt k hk).1)
  obtain ⟨p, cap, rfl, hp⟩ := own_form hown'
  rw [← cellsOf_append] at hown'
  exact h p cap w' hown' hp (Ex.of_below hbel)

theorem Sl.drop {w : World} {b o : Nat} {cs : List C4} (h : Sl w (some ⟨b, o, none⟩) cs) (i : Nat) (hi : i ≤ cs.length) : Sl w (some ⟨b, o + i * 4, none⟩) (cs.drop i) := fun j hj => by
  simp at hj
  obtain ⟨b', o', e, hb, h1, h2, h3, h4⟩ := h (i + j) (by omega)
  simp at e
  obtain ⟨rfl, rfl⟩ := e
  refine ⟨b, o + i * 4, rfl, hb, ?_, ?_, ?_, ?_⟩
  all_goals rw [List.getElem_drop]
  · rw [← h1]; congr 2; omega
  · rw [← h2]; congr 2; omega
  · rw [← h3]; congr 2; omega
  · rw [← h4]; congr 2; omega

theorem l2Own_n {cs : List C4} {b o n cap : Nat} {w : World} (hl : cs.length = n) (hn : n ≤ 1000000000) (hz : Sl w (some ⟨b, o, none⟩) cs) :
    Calls Try.prog 109 #[.slice (some ⟨b, o, none⟩) n cap] w fun e w' => ∃ p cap', e = .returned (.slice p n cap') ∧ Ex w w' ∧ Row w.heap.size w'.heap.size w' p cap' cs := by
  subst hl; exact l2Own_c cs b o cap w hn hz

theorem l2Drop_c (cs : List C4) (i : Nat) (p : Option Addr) (cap : Nat) (w : World) (hi : i < cs.length) (hn : cs.length ≤ 1000) (hcap : cs.length ≤ cap) (hz : Sl w p cs) :
    Calls Try.prog 88 #[.slice p cs.length cap, .int .i64 i] w fun e w' => ∃ q cap', e = .returned (.slice q (dropAt cs i).length cap') ∧ Ex w w' ∧ Row w.heap.size w'.heap.size w' q cap' (dropAt cs i) := by
  obtain ⟨b, o, rfl, _⟩ := hz i hi
  have hl := dropAt_length hi
  have Hz := Lib.hid hz
  have Hzd := Lib.hid (hz.drop (i + 1) (by omega))
  have hlt : (cs.take i).length = i := by rw [List.length_take]; omega
  have hld : (cs.drop (i + 1)).length = cs.length - (i + 1) := by rw [List.length_drop]
  clear hz
  rw [hl]
  have hi1 : (i : Int) ≤ (cap : Int) := by omega
  have hi2 : i ≤ cap := by omega
  have hi3 : (i : Int) + 1 ≤ (cs.length : Int) := by omega
  have hi4 : i + 1 ≤ cs.length := by omega
  have hlx : i + (cs.length - (i + 1)) = cs.length - 1 := by omega
  have hi5 : (0 : Int) ≤ (i : Int) + 1 := by omega
  have hi6 : (i : Int) < (cs.length : Int) := by omega
  have hi7 : (cs.length : Int) ≤ (cap : Int) := by omega
  have hi8 : (i : Int) + 1 ≤ (cap : Int) := by omega
  have hi9 : ((i : Int) + 1).toNat = i + 1 := by omega
  have hoff : ∃ off, (if cap = i + 1 then (some ⟨b, o, none⟩ : Option Addr) else some ⟨b, o + (i + 1) * 4, none⟩) = some ⟨b, off, none⟩ ∧ Sl w (some ⟨b, off, none⟩) (cs.drop (i + 1)) := by
    by_cases hce : cap = i + 1
    · refine ⟨o, by rw [if_pos hce], fun j hj => ?_⟩
      rw [hld] at hj
      omega
    · exact ⟨_, by rw [if_neg hce], Hzd.out⟩
  obtain ⟨off, hif, hzd⟩ := hoff
  have Hzf := Lib.hid hzd
  clear hzd
  have hw1 : IntKind.i64.wrap ((i : Int) + 1) = (i : Int) + 1 := IntWalk.i64_in _ (by omega)
  have hE0 : Ex w w := Ex.refl w
  go_enter Try.func88, Try.ntmps88
  go_wp2
  go_region_held3 (fun _ => True) (trivial)
    (first | (go_at_call 109; refine (l2Own_n hlt (by omega) ((Hz.out.take i).ex (by exact by repeat (first | exact Ex.refl _ | refine Ex.ext ?_ _ | refine Ex.alloc ?_ _ | refine Ex.drew ?_)))).mono ?_; rintro e w1 ⟨q, c1, rfl, hx, hr⟩; have hown := own_base hr.own (Ex.below (hE0.trans (by exact by repeat (first | exact Ex.refl _ | refine Ex.ext ?_ _ | refine Ex.alloc ?_ _ | refine Ex.drew ?_)))).size; have hE := hE0.trans (Ex.trans (by exact by repeat (first | exact Ex.refl _ | refine Ex.ext ?_ _ | refine Ex.alloc ?_ _ | refine Ex.drew ?_)) hx); clear hx hr) |
      (refine step_apps (W0 := w) rfl (hE.trans (by exact by repeat (first | exact Ex.refl _ | refine Ex.ext ?_ _ | refine Ex.alloc ?_ _ | refine Ex.drew ?_))) (by rfl) _ _ (by rfl) _ i (cs.take i) (by rfl) (by rw [hlt] at hown; exact hown) b off (cs.length - (i + 1)) (cap - (i + 1)) (cs.drop (i + 1)) (by rfl) hld (Hzf.out.ex (hE.trans (by exact by repeat (first | exact Ex.refl _ | refine Ex.ext ?_ _ | refine Ex.alloc ?_ _ | refine Ex.drew ?_)))) (by omega) ?_; intro p' c' w2 hown' hp' hE2))
  go_wp2
  go_ret
  rw [hlx] at hown'
  refine ⟨p', c', by first | rfl | rw [hlx] | simp [hlx], hE2, ⟨?_, hp'⟩⟩
  rw [hl]; exact hown'






def drB (cs : List C4) (c : C4) : Bool := handB cs && hasB cs c
def drR (cs : List C4) (c : C4) : List C4 := if drB cs c then dropAt cs (placeR cs c).toNat else []
theorem drR_len (cs : List C4) (c : C4) : (drR cs c).length ≤ 27 := by
  unfold drR; split
  · rename_i h
    simp only [drB, Bool.and_eq_true] at h
    have h1 := (handB_ok h.1).2
    simp only [dropAt, List.length_append, List.length_take, List.length_drop]; omega
  · simp
theorem has_place {cs : List C4} {c : C4} (hn : cs.Nodup) (h : hasB cs c = true) : ∃ (i : Nat) (hi : i < cs.length), placeR cs c = (i : Int) ∧ cs[i] = c := by
  have hm : c ∈ cs := by simpa [hasB] using h
  obtain ⟨i, hi, e⟩ := List.getElem_of_mem hm
  exact ⟨i, hi, place_get hi hn e, e⟩

theorem specDropCard_c (cs : List C4) (c : C4) (p : Option Addr) (cap : Nat) (w : World) (hn : cs.length ≤ 1000000000000) (hcap : cs.length ≤ cap) (hz : Sl w p cs) :
    Calls Try.prog 46 #[.slice p cs.length cap, .agg #[.int .i64 c.a, .int .i64 c.b, .int .i64 c.c, .int .i64 c.d]] w fun e w' => ∃ q cap', e = .returned (.tuple #[.slice q (drR cs c).length cap', .bool (drB cs c)]) ∧ Ex w w' ∧ Row w.heap.size w'.heap.size w' q cap' (drR cs c) := by
  have Hz := Lib.hid hz
  clear hz
  cases h : drB cs c
  · have hR : drR cs c = [] := by simp [drR, h]
    rw [hR]
    have HB := Lib.hid h
    clear hR h
    cases h1 : handB cs
    all_goals cases h3 : hasB cs c
    all_goals first
      | (exfalso; have := HB.out; simp [drB, h1, h3] at this; done)
      | (go_enter Try.func46, Try.ntmps46
         go_wp2_with (first | (go_at_call 64; refine (l2Hand_c _ _ _ _ hn (Hz.out.ex (by repeat (first | exact Ex.refl _ | refine Ex.ext ?_ _ | refine Ex.alloc ?_ _ | refine Ex.drew ?_)))).mono ?_; rintro e w' ⟨rfl, x, rfl⟩; rw [h1]) | (go_at_call 79; refine (l2Has_c _ _ _ _ _ hn (Hz.out.ex (by repeat (first | exact Ex.refl _ | refine Ex.ext ?_ _ | refine Ex.alloc ?_ _ | refine Ex.drew ?_)))).mono ?_; rintro e w' ⟨rfl, x, rfl⟩; rw [h3]))
         go_ret2
         exact ⟨_, 0, by simp [ext_size], by repeat (first | exact Ex.refl _ | refine Ex.ext ?_ _ | refine Ex.alloc ?_ _ | refine Ex.drew ?_), (Row.empty _).mono (by first | (simp; done) | (simp [ext_size]; done) | (simp [ext_size]; omega) | omega) (by first | (simp; done) | (simp [ext_size]; done) | (simp [ext_size]; omega) | omega)⟩)
  · have h' := h
    simp only [drB, Bool.and_eq_true] at h'
    obtain ⟨h1, h3⟩ := h'
    have Hh := Lib.hid (handB_ok h1)
    have hn2 : cs.length ≤ 1000 := by have := Hh.out.2; omega
    obtain ⟨i, hi, hpl, hci⟩ := has_place (((handB_iff cs).1 h1).1.nodup) h3
    have hR : drR cs c = dropAt cs i := by simp [drR, h, hpl]
    rw [hR]
    clear hR h hci
    go_enter Try.func46, Try.ntmps46
    go_wp2_with (first | (go_at_call 64; refine (l2Hand_c _ _ _ _ hn (Hz.out.ex (by repeat (first | exact Ex.refl _ | refine Ex.ext ?_ _ | refine Ex.alloc ?_ _ | refine Ex.drew ?_)))).mono ?_; rintro e w' ⟨rfl, x, rfl⟩; rw [h1]) | (go_at_call 79; refine (l2Has_c _ _ _ _ _ hn (Hz.out.ex (by repeat (first | exact Ex.refl _ | refine Ex.ext ?_ _ | refine Ex.alloc ?_ _ | refine Ex.drew ?_)))).mono ?_; rintro e w' ⟨rfl, x, rfl⟩; rw [h3]) | (go_at_call 89; refine (l2Place_c _ _ _ _ _ hn (Hz.out.ex (by repeat (first | exact Ex.refl _ | refine Ex.ext ?_ _ | refine Ex.alloc ?_ _ | refine Ex.drew ?_)))).mono ?_; rintro e w' ⟨rfl, x, rfl⟩; rw [hpl]) |
      (go_at_call 88; refine (l2Drop_c _ _ _ _ _ hi hn2 hcap (Hz.out.ex (by repeat (first | exact Ex.refl _ | refine Ex.ext ?_ _ | refine Ex.alloc ?_ _ | refine Ex.drew ?_)))).mono ?_; rintro e w1 ⟨q, cap', rfl, hx, hr⟩))
    go_ret2
    exact ⟨q, cap', rfl, (show Ex w w1 from (by repeat (first | exact Ex.refl _ | assumption | refine Ex.ext ?_ _ | refine Ex.alloc ?_ _ | refine Ex.drew ?_ | refine Ex.trans ?_ (by assumption)))), hr.mono (by first | (simp; done) | (simp [ext_size]; done) | (simp [ext_size]; omega) | omega) (Nat.le_refl _)⟩

-- the closure of without
theorem without1_c (x : C4) (B : Nat) (c : C4) (w : World) (hb : Box4 w B c.a c.b c.c c.d) :
    Calls Try.prog 112 #[.agg #[.int .i64 x.a, .int .i64 x.b, .int .i64 x.c, .int .i64 x.d], .pointer (some ⟨B, 0, none⟩)] w fun e w' => e = .returned (.bool (ceq x c)) ∧ Ex w w' := by
  obtain ⟨b0, b1, b2, b3, b4⟩ := hb
  cases h : ceq x c
  all_goals
    go_enter Try.func112, Try.ntmps112
    go_wp2
    go_ret
    exact ⟨rfl, by repeat (first | exact Ex.refl _ | refine Ex.ext ?_ _ | refine Ex.alloc ?_ _ | refine Ex.drew ?_)⟩

theorem indexFuncD_c (cs : List C4) (c : C4) (p : Option Addr) (cap B : Nat) (w : World) (hn : cs.length ≤ 1000000000000) (hb : Box4 w B c.a c.b c.c c.d) (hz : Sl w p cs) :
    Calls Try.prog 118 #[.slice p cs.length cap, .func (.func 112) #[] #[.pointer (some ⟨B, 0, none⟩)]] w
      fun e w' => e = .returned (.int .i64 (placeR cs c)) ∧ Ex w w' := by
  have HB := Lib.hid hb
  clear hb
  go_enter Try.func118, Try.ntmps118
  go_wp2
  go_loopw [8] (fun v wr => ∃ k : Nat, k ≤ cs.length ∧ v = .int .i64 k ∧ Ex w wr ∧ placeR cs c = firstNot (fun z => !ceq z c) (cs.drop k) k) (fun v _ => cs.length - (intOf v).toNat)
  case atStart => exact ⟨0, Nat.zero_le _, rfl, Ex.refl _, rfl⟩
  case round =>
    obtain ⟨k, hk, rfl, ⟨x, rfl⟩, hf⟩ := hrel
    have Hf := Lib.hid hf
    clear hf
    by_cases hlt : k < cs.length
    · obtain ⟨b, o, rfl, hb, h1, h2, h3, h4⟩ := hz k hlt
      clear hz
      have Hd := Lib.hid (List.drop_eq_getElem_cons hlt)
      generalize cs[k] = z at *
      cases hc : ceq z c
      all_goals go_wp2_with (go_at_call 112; refine (without1_c _ B c _ (HB.out.ex (by exact by repeat (first | exact Ex.refl _ | refine Ex.ext ?_ _ | refine Ex.alloc ?_ _ | refine Ex.drew ?_)))).mono ?_; rw [hc]; rintro e w' ⟨rfl, x, rfl⟩)
      · go_roundw
        case rel =>
          refine ⟨k + 1, by omega, by go_num, by repeat (first | exact Ex.refl _ | refine Ex.ext ?_ _ | refine Ex.alloc ?_ _ | refine Ex.drew ?_), ?_⟩
          rw [Hf.out, Hd.out, firstNot_yes (f := fun z => !ceq z c) (by simp [hc])]
          rfl
        case measure => simp [intOf]; omega
      · go_ret
        refine ⟨ret_int ?_, by repeat (first | exact Ex.refl _ | refine Ex.ext ?_ _ | refine Ex.alloc ?_ _ | refine Ex.drew ?_)⟩
        rw [Hf.out, Hd.out, firstNot_no (f := fun z => !ceq z c) (by simp [hc])]
    · have : k = cs.length := by omega
      subst this
      clear hz
      go_wp2
      go_ret
      exact ⟨ret_int (by rw [Hf.out, List.drop_length, firstNot_nil]), by repeat (first | exact Ex.refl _ | refine Ex.ext ?_ _ | refine Ex.alloc ?_ _ | refine Ex.drew ?_)⟩

theorem Box4.setBlk {w : World} {b g : Nat} {x y z t : Int} (h : Box4 w b x y z t) (o : Obj) (hb : g ≠ b) : Box4 (setBlk w g o) b x y z t :=
  ⟨by rw [setBlk_size]; exact h.lt, by rw [setBlk_cell_other _ _ _ _ hb]; exact h.c0, by rw [setBlk_cell_other _ _ _ _ hb]; exact h.c1, by rw [setBlk_cell_other _ _ _ _ hb]; exact h.c2, by rw [setBlk_cell_other _ _ _ _ hb]; exact h.c3⟩

theorem run_clear_card (w : World) (g o c : Nat) (A : Array Value) (x : Ext) (u1 u2 u3 u4 : Value) (hg : g < w.heap.size) (e1 : A[o]? = some u1) (e2 : A[o + 1]? = some u2) (e3 : A[o + 2]? = some u3) (e4 : A[o + 3]? = some u4) :
    (Builtin.clear_ #[22] 0 #[.slice (some ⟨g, o, none⟩) 1 c]).run Try.prog (ext (setBlk w g (.cells A 48 (0, 0))) x) =
      .ok (.tuple #[]) (ext (setBlk w g (.cells ((((A.setIfInBounds o (.int .i64 0)).setIfInBounds (o + 1) (.int .i64 0)).setIfInBounds (o + 2) (.int .i64 0)).setIfInBounds (o + 3) (.int .i64 0)) 48 (0, 0))) x) := by
  have hz : (Builtin.zeroCells #[Value.int .i64 0, .int .i64 0, .int .i64 0, .int .i64 0] 1).toList = [.int .i64 0, .int .i64 0, .int .i64 0, .int .i64 0] := by simp [Builtin.zeroCells]; rfl
  simp only [Builtin.clear_, Sem.run_bind, Result.andThen]
  go_simp
theorem cells_low {cs : List C4} {i j : Nat} (hi : i < cs.length) (hj : j < i * 4) : (cellsOf cs)[j]? = (cellsOf (dropAt cs i))[j]? := by
  have h1 : cellsOf cs = cellsOf (cs.take i) ++ cellsOf (cs.drop i) := by rw [← cellsOf_append, List.take_append_drop]
  have hl : (cellsOf (cs.take i)).length = i * 4 := by rw [cellsOf_length, List.length_take]; omega
  rw [h1, dropAt, cellsOf_append, List.getElem?_append_left (by omega), List.getElem?_append_left (by omega)]

theorem deleteFunc_c (cs : List C4) (c : C4) (i g cap B lo top : Nat) (w : World) (hn : cs.length ≤ 1000) (hnd : cs.Nodup) (hi : i < cs.length) (hci : cs[i] = c) (hb : Box4 w B c.a c.b c.c c.d) (hBg : g ≠ B) (h : Row lo top w (some ⟨g, 0, none⟩) cap cs) :
    Calls Try.prog 110 #[.slice (some ⟨g, 0, none⟩) cs.length cap, .func (.func 112) #[] #[.pointer (some ⟨B, 0, none⟩)]] w
      fun e w' => e = .returned (.slice (some ⟨g, 0, none⟩) (cs.length - 1) cap) ∧ Keeps g w w' ∧ Row lo top w' (some ⟨g, 0, none⟩) cap (dropAt cs i) := by
  rcases h.blk with ⟨h1, _, _⟩ | ⟨g', cur, h1, hg1, hg2, hg, hh, hc, hm, hs, ht⟩
  · cases h1
  simp at h1
  subst h1
  have hset := setBlk_self hh
  have hl := dropAt_length hi
  suffices hsuf : Calls Try.prog 110 #[.slice (some ⟨g, 0, none⟩) cs.length cap, .func (.func 112) #[] #[.pointer (some ⟨B, 0, none⟩)]] (setBlk w g (.cells cur 48 (0, 0)))
      fun e w' => e = .returned (.slice (some ⟨g, 0, none⟩) (cs.length - 1) cap) ∧ ∃ A x, w' = ext (setBlk w g (.cells A 48 (0, 0))) x ∧ A.size = cap * 4 ∧ ∀ j, j < (cs.length - 1) * 4 → A[j]? = (cellsOf (dropAt cs i))[j]? by
    rw [← hset] at hsuf
    refine hsuf.mono ?_
    rintro e w' ⟨rfl, A, x, rfl, h2, h3⟩
    refine ⟨rfl, ⟨rfl, rfl, rfl, by rw [ext_size, setBlk_size]; omega, fun k hk hk2 => ?_⟩, ?_⟩
    · rw [ext_heap _ _ (by rw [setBlk_size]; exact hk), setBlk_heap, if_neg (by omega)]
    · refine Row.ex ?_ ⟨x, rfl⟩
      refine ⟨⟨by rw [cellsOf_length], ?_⟩, h.top⟩
      refine Or.inr ⟨g, cap, A, rfl, hg1, by rw [setBlk_heap, if_pos rfl, if_pos hg], by omega, hm, h2, ?_⟩
      apply List.ext_getElem?
      intro j
      rw [List.getElem?_take]
      split
      · rename_i hj; rw [Array.getElem?_toList]; exact h3 j (by omega)
      · rename_i hj; rw [List.getElem?_eq_none]; rw [cellsOf_length]; omega
  have hsl : Sl (setBlk w g (.cells cur 48 (0, 0))) (some ⟨g, 0, none⟩) cs := by rw [← hset]; exact h.sl
  have HB0 := Lib.hid (fun o => hb.setBlk o hBg)
  have Hcur := Lib.hid (show ∀ j, j < cs.length * 4 → cur[j]? = (cellsOf cs)[j]? from fun j hj => by rw [← ht, List.getElem?_take, if_pos hj, Array.getElem?_toList])
  have HS := Lib.hid hs
  have Hne := Lib.hid (show ∀ j (hj : j < cs.length), i < j → ceq cs[j] c = false from fun j hj hij => (ceq_false _ _).2 (fun e => by have := nodup_at hnd i j hi hj (by rw [hci, e]); omega))
  have hpl := place_get hi hnd hci
  have Hidx := Lib.hid (indexFuncD_c cs c (some ⟨g, 0, none⟩) cap B _ (by omega) (hb.setBlk (.cells cur 48 (0, 0)) hBg) hsl)
  clear h hh ht hset hsl hb hs hnd hci
  unfold maxLen at hm
  have hneg : (((i : Int) == -1)) = false := beq_eq_false_iff_ne.2 (by omega)
  go_enter Try.func110, Try.ntmps110
  go_wp2_with (go_at_call 118; refine Hidx.out.mono ?_; rw [hpl]; rintro e w' ⟨rfl, x, rfl⟩)
  go_loopw [5, 6] (fun u v wr => ∃ (m : Nat) (A : Array Value) (x : Ext), i ≤ m ∧ m + 1 ≤ cs.length ∧ u = .int .i64 m ∧ v = .int .i64 ((m : Int) + 1) ∧ wr = ext (setBlk w g (.cells A 48 (0, 0))) x ∧ A.size = cap * 4 ∧
    (∀ j, j < m * 4 → A[j]? = (cellsOf (dropAt cs i))[j]?) ∧ (∀ j, (m + 1) * 4 ≤ j → j < cs.length * 4 → A[j]? = (cellsOf cs)[j]?)) (fun _ v _ => cs.length - (intOf v).toNat)
  case atStart => exact ⟨i, cur, x, Nat.le_refl _, by omega, rfl, by go_num, rfl, HS.out, fun j hj => by rw [Hcur.out j (by omega), cells_low (i := i) (by omega) hj], fun j h1 h2 => Hcur.out j h2⟩
  case round =>
    obtain ⟨m, A, x, him, hm1, rfl, rfl, rfl, hA, hlow, hhigh⟩ := hrel
    by_cases hlt : m + 1 < cs.length
    · obtain ⟨f1, f2, f3, f4⟩ := cellsOf_get cs (m + 1) hlt
      have e1 := (hhigh ((m + 1) * 4) (by omega) (by omega)).trans f1
      have e2 := (hhigh ((m + 1) * 4 + 1) (by omega) (by omega)).trans f2
      have e3 := (hhigh ((m + 1) * 4 + 2) (by omega) (by omega)).trans f3
      have e4 := (hhigh ((m + 1) * 4 + 3) (by omega) (by omega)).trans f4
      have hc := Hne.out (m + 1) hlt (by omega)
      have Hd := Lib.hid (dropAt_high him hlt (by omega))
      have HA := Lib.hid hA
      have Hlow := Lib.hid hlow
      have Hhigh := Lib.hid hhigh
      obtain ⟨u1, g1⟩ : ∃ u, A[m * 4]? = some u := ⟨_, Array.getElem?_eq_getElem (by omega)⟩
      obtain ⟨u2, g2⟩ : ∃ u, A[m * 4 + 1]? = some u := ⟨_, Array.getElem?_eq_getElem (by omega)⟩
      obtain ⟨u3, g3⟩ : ∃ u, A[m * 4 + 2]? = some u := ⟨_, Array.getElem?_eq_getElem (by omega)⟩
      obtain ⟨u4, g4⟩ : ∃ u, A[m * 4 + 3]? = some u := ⟨_, Array.getElem?_eq_getElem (by omega)⟩
      clear hlow hhigh hA f1 f2 f3 f4
      generalize cs[m + 1] = z at *
      have hi1 : (m : Int) + 1 < (cs.length : Int) := by omega
      have hi2 : (m : Int) < (cs.length : Int) := by omega
      have hi3 : m < cs.length := by omega
      go_wp2_with (go_at_call 112; refine (without1_c _ B c _ ((HB0.out _).ex (by exact by repeat (first | exact Ex.refl _ | refine Ex.ext ?_ _ | refine Ex.alloc ?_ _ | refine Ex.drew ?_)))).mono ?_; rw [hc]; rintro e w' ⟨rfl, x, rfl⟩)
      go_roundw
      case rel =>
        (try ((repeat apply Exists.intro); refine ⟨?_, rfl⟩))
        refine ⟨m + 1, ((((A.setIfInBounds (m * 4) (.int .i64 z.a)).setIfInBounds (m * 4 + 1) (.int .i64 z.b)).setIfInBounds (m * 4 + 2) (.int .i64 z.c)).setIfInBounds (m * 4 + 3) (.int .i64 z.d)), _, by omega, by omega, by go_num, by go_num, (by rw [ext_alloc, ext_ext]), ?_, ?_, ?_⟩
        · simp only [Array.size_setIfInBounds]; exact HA.out
        · have hs4 := set4m (cs := dropAt cs i) (k := m) (A := A) (by omega) (by rw [HA.out]; omega) Hlow.out
          rw [Hd.out] at hs4
          exact hs4
        · intro j h1 h2
          rw [← Hhigh.out j (by omega) h2]
          simp only [Array.getElem?_setIfInBounds]
          rw [if_neg (by omega), if_neg (by omega), if_neg (by omega), if_neg (by omega)]
      case measure => simp [intOf]; omega
    · have hmn : cs.length = m + 1 := by omega
      have HA := Lib.hid hA
      have Hlow := Lib.hid hlow
      clear hlow hhigh hA
      obtain ⟨u1, g1⟩ : ∃ u, A[m * 4]? = some u := ⟨_, Array.getElem?_eq_getElem (by rw [HA.out]; omega)⟩
      obtain ⟨u2, g2⟩ : ∃ u, A[m * 4 + 1]? = some u := ⟨_, Array.getElem?_eq_getElem (by rw [HA.out]; omega)⟩
      obtain ⟨u3, g3⟩ : ∃ u, A[m * 4 + 2]? = some u := ⟨_, Array.getElem?_eq_getElem (by rw [HA.out]; omega)⟩
      obtain ⟨u4, g4⟩ : ∃ u, A[m * 4 + 3]? = some u := ⟨_, Array.getElem?_eq_getElem (by rw [HA.out]; omega)⟩
      have hclr := run_clear_card w g (m * 4) (cap - m) A x u1 u2 u3 u4 hg g1 g2 g3 g4
      have hcm : m ≤ cap := by omega
      have hcm1 : (m : Int) ≤ (cap : Int) := by omega
      have hcm2 : (m : Int) ≤ (m : Int) + 1 := by omega
      rw [hmn]
      go_wp2
      go_ret
      refine ⟨by simp; omega, _, x, rfl, ?_, fun j hj => ?_⟩
      · simp only [Array.size_setIfInBounds]; exact HA.out
      · have hj' : j < m * 4 := by omega
        simp only [Array.getElem?_setIfInBounds]
        rw [if_neg (by omega), if_neg (by omega), if_neg (by omega), if_neg (by omega)]
        exact Hlow.out j hj'

theorem without_c (cs : List C4) (c : C4) (i : Nat) (p : Option Addr) (cap : Nat) (w : World) (hn : cs.length ≤ 1000) (hnd : cs.Nodup) (hi : i < cs.length) (hci : cs[i] = c) (hz : Sl w p cs) :
    Calls Try.prog 90 #[.slice p cs.length cap, .agg #[.int .i64 c.a, .int .i64 c.b, .int .i64 c.c, .int .i64 c.d]] w fun e w' => ∃ q cap', e = .returned (.slice q (dropAt cs i).length cap') ∧ Ex w w' ∧ Row w.heap.size w'.heap.size w' q cap' (dropAt cs i) := by
  obtain ⟨b, o, rfl, _⟩ := hz i hi
  have Hz := Lib.hid hz
  have Hci := Lib.hid hci
  have Hnd := Lib.hid hnd
  have hbx := Box4.new w c.a c.b c.c c.d
  have hl := dropAt_length hi
  clear hz hci hnd
  go_enter Try.func90, Try.ntmps90
  go_wp2_with (go_at_call 111; refine (clone_c _ _ _ _ _ (by omega) (Hz.out.alloc _)).mono ?_; rintro e w1 ⟨q, cap1, rfl, hx, hr⟩)
  rcases hr.blk with ⟨_, h0, _⟩ | ⟨g, cur, rfl, hg1, hg2, hg3, _⟩
  · rw [h0] at hi; simp at hi
  have hsz := alloc_sz_of hx
  go_wp2_with (go_at_call 110; refine (deleteFunc_c cs c i g cap1 w.heap.size _ _ _ hn Hnd.out hi Hci.out (hbx.ex hx) (by omega) hr).mono ?_; rintro e w2 ⟨rfl, hK, hr2⟩)
  go_ret
  rw [hl]
  refine ⟨some ⟨g, 0, none⟩, cap1, rfl, Keeps.ex (((Ex.refl w).alloc _).trans hx) hK (by omega), ?_⟩
  have := hr2.mono (lo' := w.heap.size) (hi' := w2.heap.size) (by omega) hK.size
  exact this

theorem implDropCard_c (cs : List C4) (c : C4) (p : Option Addr) (cap : Nat) (w : World) (hn : cs.length ≤ 1000000000000) (hcap : cs.length ≤ cap) (hz : Sl w p cs) :
    Calls Try.prog 47 #[.slice p cs.length cap, .agg #[.int .i64 c.a, .int .i64 c.b, .int .i64 c.c, .int .i64 c.d]] w fun e w' => ∃ q cap', e = .returned (.tuple #[.slice q (drR cs c).length cap', .bool (drB cs c)]) ∧ Ex w w' ∧ Row w.heap.size w'.heap.size w' q cap' (drR cs c) := by
  have Hz := Lib.hid hz
  clear hz
  cases h : drB cs c
  · have hR : drR cs c = [] := by simp [drR, h]
    rw [hR]
    have HB := Lib.hid h
    clear hR h
    cases h1 : handB cs
    all_goals cases h3 : hasB cs c
    all_goals first
      | (exfalso; have := HB.out; simp [drB, h1, h3] at this; done)
      | (go_enter Try.func47, Try.ntmps47
         go_wp2_with (first | (go_at_call 66; refine (implIsHand_c _ _ _ _ hn (Hz.out.ex (by repeat (first | exact Ex.refl _ | refine Ex.ext ?_ _ | refine Ex.alloc ?_ _ | refine Ex.drew ?_)))).mono ?_; rintro e w' ⟨rfl, x, rfl⟩; rw [h1]) | (go_at_call 72; refine (has_c _ _ _ _ _ hn (Hz.out.ex (by repeat (first | exact Ex.refl _ | refine Ex.ext ?_ _ | refine Ex.alloc ?_ _ | refine Ex.drew ?_)))).mono ?_; rintro e w' ⟨rfl, x, rfl⟩; rw [h3]))
         go_ret2
         exact ⟨none, 0, by simp, by repeat (first | exact Ex.refl _ | refine Ex.ext ?_ _ | refine Ex.alloc ?_ _ | refine Ex.drew ?_), Row.nil _ _ _⟩)
  · have h' := h
    simp only [drB, Bool.and_eq_true] at h'
    obtain ⟨h1, h3⟩ := h'
    have Hh := Lib.hid (handB_ok h1)
    have hn2 : cs.length ≤ 1000 := by have := Hh.out.2; omega
    have Hnd := Lib.hid (((handB_iff cs).1 h1).1.nodup)
    obtain ⟨i, hi, hpl, hci⟩ := has_place Hnd.out h3
    have Hci := Lib.hid hci
    have hR : drR cs c = dropAt cs i := by simp [drR, h, hpl]
    rw [hR]
    clear hR h hci hpl
    go_enter Try.func47, Try.ntmps47
    go_wp2_with (first | (go_at_call 66; refine (implIsHand_c _ _ _ _ hn (Hz.out.ex (by repeat (first | exact Ex.refl _ | refine Ex.ext ?_ _ | refine Ex.alloc ?_ _ | refine Ex.drew ?_)))).mono ?_; rintro e w' ⟨rfl, x, rfl⟩; rw [h1]) | (go_at_call 72; refine (has_c _ _ _ _ _ hn (Hz.out.ex (by repeat (first | exact Ex.refl _ | refine Ex.ext ?_ _ | refine Ex.alloc ?_ _ | refine Ex.drew ?_)))).mono ?_; rintro e w' ⟨rfl, x, rfl⟩; rw [h3]) |
      (go_at_call 90; refine (without_c _ _ _ _ _ _ hn2 Hnd.out hi Hci.out (Hz.out.ex (by repeat (first | exact Ex.refl _ | refine Ex.ext ?_ _ | refine Ex.alloc ?_ _ | refine Ex.drew ?_)))).mono ?_; rintro e w1 ⟨q, cap', rfl, hx, hr⟩))
    go_ret2
    exact ⟨q, cap', rfl, (show Ex w w1 from (by repeat (first | exact Ex.refl _ | assumption | refine Ex.ext ?_ _ | refine Ex.alloc ?_ _ | refine Ex.drew ?_ | refine Ex.trans ?_ (by assumption)))), hr.mono (by first | (simp; done) | (simp [ext_size]; done) | (simp [ext_size]; omega) | omega) (Nat.le_refl _)⟩

theorem fnExactDropCard_walk (w : World) (p : Option Addr) (cs : List C4) (cap : Nat) (hl : cs.length ≤ maxLen) (hz : Sl w p cs) (c : C4) : Calls Try.prog 9 #[.slice p cs.length cap, .agg #[.int .i64 c.a, .int .i64 c.b, .int .i64 c.c, .int .i64 c.d]] w fun e w' => e = .returned (.bool true) ∧ Below w.heap.size w w' := by
  unfold maxLen at hl
  have hB : Below w.heap.size w (w.alloc (.cells #[.int .i64 c.a, .int .i64 c.b, .int .i64 c.c, .int .i64 c.d] 48)) := Ex.below (by exact by repeat (first | exact Ex.refl _ | refine Ex.ext ?_ _ | refine Ex.alloc ?_ _ | refine Ex.drew ?_))
  have hb : Box4 (w.alloc (.cells #[.int .i64 c.a, .int .i64 c.b, .int .i64 c.c, .int .i64 c.d] 48)) w.heap.size c.a c.b c.c c.d := Box4.new w _ _ _ _
  by_cases hs : cs.length ≤ 1048576
  · have h3 : ¬ ((1048576 : Int) - cs.length < 0) := by omega
    go_enter Try.func9, Try.ntmps9
    go_wp2_with (go_at_call 17; refine (sz_c _ _ _ _ (by omega) (by omega) (by omega) _).mono ?_; rintro e w1 ⟨rfl, hx⟩; rw [szSmall hs]; have hb := hb.ex hx; have hB := below_ex hB hx; have hs1 := Lib.hid hx.below.size; have hq1 := Lib.hid (alloc_sz_of hx); clear hx; obtain ⟨b0, b1, b2, b3, b4⟩ := id hb)
    have hlen := drR_len cs c
    go_region_held3 (fun w' => w'.cell? ⟨w.heap.size, 0, none⟩ = some (.int .i64 c.a) ∧ w'.cell? ⟨w.heap.size, 1, none⟩ = some (.int .i64 c.b) ∧ w'.cell? ⟨w.heap.size, 2, none⟩ = some (.int .i64 c.c) ∧ w'.cell? ⟨w.heap.size, 3, none⟩ = some (.int .i64 c.d))
      (first | exact ⟨hb.c0, hb.c1, hb.c2, hb.c3⟩ | exact ⟨(hb.ex ((Ex.refl _).drew)).c0, (hb.ex ((Ex.refl _).drew)).c1, (hb.ex ((Ex.refl _).drew)).c2, (hb.ex ((Ex.refl _).drew)).c3⟩)
      (first | (go_at_call 19; refine (toA4S_o _ _ _ _ (by omega) (hz.below (by first | exact hB | exact below_ex hB ((Ex.refl _).drew)))).mono ?_; rintro e w2 ⟨gra, rfl, hx, ra⟩; have hq2 := Lib.hid (drew_sz w1); have hb := hb.ex (Ex.trans (by exact by repeat (first | exact Ex.refl _ | refine Ex.ext ?_ _ | refine Ex.alloc ?_ _ | refine Ex.drew ?_)) hx); have hB := below_ex hB (Ex.trans (by exact by repeat (first | exact Ex.refl _ | refine Ex.ext ?_ _ | refine Ex.alloc ?_ _ | refine Ex.drew ?_)) hx); have hs2 := Lib.hid hx.below.size; clear hx; (try clear b0 b1 b2 b3 b4); obtain ⟨b0, b1, b2, b3, b4⟩ := id hb) |
        (go_at_call 39; refine (toA4_c _ _).mono ?_; rintro e w3 ⟨rfl, hx⟩; have ra := ra.ex (Ex.trans (by exact by repeat (first | exact Ex.refl _ | refine Ex.ext ?_ _ | refine Ex.alloc ?_ _ | refine Ex.drew ?_)) hx); have hb := hb.ex (Ex.trans (by exact by repeat (first | exact Ex.refl _ | refine Ex.ext ?_ _ | refine Ex.alloc ?_ _ | refine Ex.drew ?_)) hx); have hB := below_ex hB (Ex.trans (by exact by repeat (first | exact Ex.refl _ | refine Ex.ext ?_ _ | refine Ex.alloc ?_ _ | refine Ex.drew ?_)) hx); have hs3 := Lib.hid hx.below.size; clear hx; (try clear b0 b1 b2 b3 b4); obtain ⟨b0, b1, b2, b3, b4⟩ := id hb) |
        (go_at_call 46; refine (specDropCard_c _ _ _ _ _ (by omega) (by omega) ra.sl).mono ?_; rintro e w4 ⟨qw, cw, rfl, hx, rw0⟩; have hb := hb.ex (Ex.trans (by exact by repeat (first | exact Ex.refl _ | refine Ex.ext ?_ _ | refine Ex.alloc ?_ _ | refine Ex.drew ?_)) hx); have hB := below_ex hB (Ex.trans (by exact by repeat (first | exact Ex.refl _ | refine Ex.ext ?_ _ | refine Ex.alloc ?_ _ | refine Ex.drew ?_)) hx); have hs4 := Lib.hid hx.below.size; clear hx; (try clear b0 b1 b2 b3 b4); obtain ⟨b0, b1, b2, b3, b4⟩ := id hb))
    go_wp2_with (go_at_call 19; refine (toA4S_o _ _ _ _ (by omega) (hz.below (by first | exact hB | exact below_ex hB ((Ex.refl _).drew)))).mono ?_; rintro e w5 ⟨grx, rfl, hx, rx⟩; have rw0 := rw0.ex (Ex.trans (by exact by repeat (first | exact Ex.refl _ | refine Ex.ext ?_ _ | refine Ex.alloc ?_ _ | refine Ex.drew ?_)) hx); have hb := hb.ex (Ex.trans (by exact by repeat (first | exact Ex.refl _ | refine Ex.ext ?_ _ | refine Ex.alloc ?_ _ | refine Ex.drew ?_)) hx); have hB := below_ex hB (Ex.trans (by exact by repeat (first | exact Ex.refl _ | refine Ex.ext ?_ _ | refine Ex.alloc ?_ _ | refine Ex.drew ?_)) hx); have hs5 := Lib.hid hx.below.size; clear hx; (try clear b0 b1 b2 b3 b4); obtain ⟨b0, b1, b2, b3, b4⟩ := id hb)
    go_wp2_with (first | (go_at_call 39; refine (toA4_c _ _).mono ?_; rintro e w6 ⟨rfl, hx⟩; have rw0 := rw0.ex (Ex.trans (by exact by repeat (first | exact Ex.refl _ | refine Ex.ext ?_ _ | refine Ex.alloc ?_ _ | refine Ex.drew ?_)) hx); have rx := rx.ex (Ex.trans (by exact by repeat (first | exact Ex.refl _ | refine Ex.ext ?_ _ | refine Ex.alloc ?_ _ | refine Ex.drew ?_)) hx); have hb := hb.ex (Ex.trans (by exact by repeat (first | exact Ex.refl _ | refine Ex.ext ?_ _ | refine Ex.alloc ?_ _ | refine Ex.drew ?_)) hx); have hB := below_ex hB (Ex.trans (by exact by repeat (first | exact Ex.refl _ | refine Ex.ext ?_ _ | refine Ex.alloc ?_ _ | refine Ex.drew ?_)) hx); have hs6 := Lib.hid hx.below.size; clear hx; (try clear b0 b1 b2 b3 b4); obtain ⟨b0, b1, b2, b3, b4⟩ := id hb) | (go_at_call 47; refine (implDropCard_c _ _ _ _ _ (by omega) (by omega) rx.sl).mono ?_; rintro e w7 ⟨qg, cg, rfl, hx, rg⟩; have rw0 := rw0.ex (Ex.trans (by exact by repeat (first | exact Ex.refl _ | refine Ex.ext ?_ _ | refine Ex.alloc ?_ _ | refine Ex.drew ?_)) hx); have rx := rx.ex (Ex.trans (by exact by repeat (first | exact Ex.refl _ | refine Ex.ext ?_ _ | refine Ex.alloc ?_ _ | refine Ex.drew ?_)) hx); have hb := hb.ex (Ex.trans (by exact by repeat (first | exact Ex.refl _ | refine Ex.ext ?_ _ | refine Ex.alloc ?_ _ | refine Ex.drew ?_)) hx); have hB := below_ex hB (Ex.trans (by exact by repeat (first | exact Ex.refl _ | refine Ex.ext ?_ _ | refine Ex.alloc ?_ _ | refine Ex.drew ?_)) hx); have hs7 := Lib.hid hx.below.size; clear hx; (try clear b0 b1 b2 b3 b4); obtain ⟨b0, b1, b2, b3, b4⟩ := id hb))
    go_wp2_with (go_at_call 22; refine (eqA4S_c _ _ _ _ _ _ _ (by omega) (by omega) rg.sl rw0.sl).mono ?_; rintro e w8 ⟨rfl, hx⟩; have rw0 := rw0.ex (Ex.trans (by exact by repeat (first | exact Ex.refl _ | refine Ex.ext ?_ _ | refine Ex.alloc ?_ _ | refine Ex.drew ?_)) hx); have rx := rx.ex (Ex.trans (by exact by repeat (first | exact Ex.refl _ | refine Ex.ext ?_ _ | refine Ex.alloc ?_ _ | refine Ex.drew ?_)) hx); have rg := rg.ex (Ex.trans (by exact by repeat (first | exact Ex.refl _ | refine Ex.ext ?_ _ | refine Ex.alloc ?_ _ | refine Ex.drew ?_)) hx); have hb := hb.ex (Ex.trans (by exact by repeat (first | exact Ex.refl _ | refine Ex.ext ?_ _ | refine Ex.alloc ?_ _ | refine Ex.drew ?_)) hx); have hB := below_ex hB (Ex.trans (by exact by repeat (first | exact Ex.refl _ | refine Ex.ext ?_ _ | refine Ex.alloc ?_ _ | refine Ex.drew ?_)) hx); have hs8 := Lib.hid hx.below.size; clear hx; (try clear b0 b1 b2 b3 b4); obtain ⟨b0, b1, b2, b3, b4⟩ := id hb)
    go_wp2_with (go_at_call 19; refine (toA4S_o _ _ _ _ (by omega) (hz.below (by first | exact hB | exact below_ex hB ((Ex.refl _).drew)))).mono ?_; rintro e w9 ⟨gry, rfl, hx, ry⟩; have rw0 := rw0.ex (Ex.trans (by exact by repeat (first | exact Ex.refl _ | refine Ex.ext ?_ _ | refine Ex.alloc ?_ _ | refine Ex.drew ?_)) hx); have rx := rx.ex (Ex.trans (by exact by repeat (first | exact Ex.refl _ | refine Ex.ext ?_ _ | refine Ex.alloc ?_ _ | refine Ex.drew ?_)) hx); have rg := rg.ex (Ex.trans (by exact by repeat (first | exact Ex.refl _ | refine Ex.ext ?_ _ | refine Ex.alloc ?_ _ | refine Ex.drew ?_)) hx); have hb := hb.ex (Ex.trans (by exact by repeat (first | exact Ex.refl _ | refine Ex.ext ?_ _ | refine Ex.alloc ?_ _ | refine Ex.drew ?_)) hx); have hB := below_ex hB (Ex.trans (by exact by repeat (first | exact Ex.refl _ | refine Ex.ext ?_ _ | refine Ex.alloc ?_ _ | refine Ex.drew ?_)) hx); have hs9 := Lib.hid hx.below.size; clear hx; (try clear b0 b1 b2 b3 b4); obtain ⟨b0, b1, b2, b3, b4⟩ := id hb)
    go_wp2_with (go_at_call 22; refine (eqA4S_c _ _ _ _ _ _ _ (by omega) (by omega) rx.sl ry.sl).mono ?_; rintro e w10 ⟨rfl, hx⟩; have rw0 := rw0.ex (Ex.trans (by exact by repeat (first | exact Ex.refl _ | refine Ex.ext ?_ _ | refine Ex.alloc ?_ _ | refine Ex.drew ?_)) hx); have rx := rx.ex (Ex.trans (by exact by repeat (first | exact Ex.refl _ | refine Ex.ext ?_ _ | refine Ex.alloc ?_ _ | refine Ex.drew ?_)) hx); have rg := rg.ex (Ex.trans (by exact by repeat (first | exact Ex.refl _ | refine Ex.ext ?_ _ | refine Ex.alloc ?_ _ | refine Ex.drew ?_)) hx); have ry := ry.ex (Ex.trans (by exact by repeat (first | exact Ex.refl _ | refine Ex.ext ?_ _ | refine Ex.alloc ?_ _ | refine Ex.drew ?_)) hx); have hb := hb.ex (Ex.trans (by exact by repeat (first | exact Ex.refl _ | refine Ex.ext ?_ _ | refine Ex.alloc ?_ _ | refine Ex.drew ?_)) hx); have hB := below_ex hB (Ex.trans (by exact by repeat (first | exact Ex.refl _ | refine Ex.ext ?_ _ | refine Ex.alloc ?_ _ | refine Ex.drew ?_)) hx); have hs10 := Lib.hid hx.below.size; clear hx; (try clear b0 b1 b2 b3 b4); obtain ⟨b0, b1, b2, b3, b4⟩ := id hb)
    go_wp2_with (go_at_call 23; refine (markA4S_c _ _ _ _ _ _ _ (by omega) (by omega) (by omega) rx).mono ?_; rintro e w11 ⟨rfl, rx, ha⟩; have rw0 := ha.row rw0 (Or.inl (by have := hs1.out; have := hs2.out; have := hs3.out; have := hs4.out; have := hs5.out; have := hs6.out; have := hs7.out; have := hs8.out; have := hs9.out; have := hs10.out; have := hq1.out; (try have := hq2.out); (try have := hq3.out); (try have := hq4.out); (try have := hq5.out); (try have := hq6.out); (try have := hq7.out); (try have := hq8.out); (try have := hq9.out); (try have := hq10.out); omega)); have rg := ha.row rg (Or.inr (by have := hs1.out; have := hs2.out; have := hs3.out; have := hs4.out; have := hs5.out; have := hs6.out; have := hs7.out; have := hs8.out; have := hs9.out; have := hs10.out; have := hq1.out; (try have := hq2.out); (try have := hq3.out); (try have := hq4.out); (try have := hq5.out); (try have := hq6.out); (try have := hq7.out); (try have := hq8.out); (try have := hq9.out); (try have := hq10.out); omega)); have hb := hb.apart ha (by have := hs1.out; have := hs2.out; have := hs3.out; have := hs4.out; have := hs5.out; have := hs6.out; have := hs7.out; have := hs8.out; have := hs9.out; have := hs10.out; have := hq1.out; (try have := hq2.out); (try have := hq3.out); (try have := hq4.out); (try have := hq5.out); (try have := hq6.out); (try have := hq7.out); (try have := hq8.out); (try have := hq9.out); (try have := hq10.out); omega); have hB := below_apart hB ha (by have := hs1.out; have := hs2.out; have := hs3.out; have := hs4.out; have := hs5.out; have := hs6.out; have := hs7.out; have := hs8.out; have := hs9.out; have := hs10.out; have := hq1.out; (try have := hq2.out); (try have := hq3.out); (try have := hq4.out); (try have := hq5.out); (try have := hq6.out); (try have := hq7.out); (try have := hq8.out); (try have := hq9.out); (try have := hq10.out); omega); have hs11 := Lib.hid ha.size; clear ha b0 b1 b2 b3 b4; obtain ⟨b0, b1, b2, b3, b4⟩ := id hb)
    go_wp2_with (go_at_call 22; refine (eqA4S_c _ _ _ _ _ _ _ (by omega) (by omega) rg.sl rw0.sl).mono ?_; rintro e w12 ⟨rfl, hx⟩; have rw0 := rw0.ex (Ex.trans (by exact by repeat (first | exact Ex.refl _ | refine Ex.ext ?_ _ | refine Ex.alloc ?_ _ | refine Ex.drew ?_)) hx); have rg := rg.ex (Ex.trans (by exact by repeat (first | exact Ex.refl _ | refine Ex.ext ?_ _ | refine Ex.alloc ?_ _ | refine Ex.drew ?_)) hx); have hb := hb.ex (Ex.trans (by exact by repeat (first | exact Ex.refl _ | refine Ex.ext ?_ _ | refine Ex.alloc ?_ _ | refine Ex.drew ?_)) hx); have hB := below_ex hB (Ex.trans (by exact by repeat (first | exact Ex.refl _ | refine Ex.ext ?_ _ | refine Ex.alloc ?_ _ | refine Ex.drew ?_)) hx); have hs12 := Lib.hid hx.below.size; clear hx; (try clear b0 b1 b2 b3 b4); obtain ⟨b0, b1, b2, b3, b4⟩ := id hb)
    go_wp2_with (go_at_call 23; refine (markA4S_c _ _ _ _ _ _ _ (by omega) (by omega) (by omega) rg).mono ?_; rintro e w13 ⟨rfl, rg, ha⟩; have rw0 := ha.row rw0 (Or.inl (by have := hs1.out; have := hs2.out; have := hs3.out; have := hs4.out; have := hs5.out; have := hs6.out; have := hs7.out; have := hs8.out; have := hs9.out; have := hs10.out; have := hs11.out; have := hs12.out; have := hq1.out; (try have := hq2.out); (try have := hq3.out); (try have := hq4.out); (try have := hq5.out); (try have := hq6.out); (try have := hq7.out); (try have := hq8.out); (try have := hq9.out); (try have := hq10.out); (try have := hq11.out); (try have := hq12.out); omega)); have hb := hb.apart ha (by have := hs1.out; have := hs2.out; have := hs3.out; have := hs4.out; have := hs5.out; have := hs6.out; have := hs7.out; have := hs8.out; have := hs9.out; have := hs10.out; have := hs11.out; have := hs12.out; have := hq1.out; (try have := hq2.out); (try have := hq3.out); (try have := hq4.out); (try have := hq5.out); (try have := hq6.out); (try have := hq7.out); (try have := hq8.out); (try have := hq9.out); (try have := hq10.out); (try have := hq11.out); (try have := hq12.out); omega); have hB := below_apart hB ha (by have := hs1.out; have := hs2.out; have := hs3.out; have := hs4.out; have := hs5.out; have := hs6.out; have := hs7.out; have := hs8.out; have := hs9.out; have := hs10.out; have := hs11.out; have := hs12.out; have := hq1.out; (try have := hq2.out); (try have := hq3.out); (try have := hq4.out); (try have := hq5.out); (try have := hq6.out); (try have := hq7.out); (try have := hq8.out); (try have := hq9.out); (try have := hq10.out); (try have := hq11.out); (try have := hq12.out); omega); have hs13 := Lib.hid ha.size; clear ha b0 b1 b2 b3 b4; obtain ⟨b0, b1, b2, b3, b4⟩ := id hb)
    go_wp2_with (go_at_call 48; refine (heldA4S_c _ _ _ _ _ (by omega) (by omega) (by omega) rg.sl).mono ?_; rintro e w14 ⟨rfl, hx⟩; have rw0 := rw0.ex (Ex.trans (by exact by repeat (first | exact Ex.refl _ | refine Ex.ext ?_ _ | refine Ex.alloc ?_ _ | refine Ex.drew ?_)) hx); have rg := rg.ex (Ex.trans (by exact by repeat (first | exact Ex.refl _ | refine Ex.ext ?_ _ | refine Ex.alloc ?_ _ | refine Ex.drew ?_)) hx); have hb := hb.ex (Ex.trans (by exact by repeat (first | exact Ex.refl _ | refine Ex.ext ?_ _ | refine Ex.alloc ?_ _ | refine Ex.drew ?_)) hx); have hB := below_ex hB (Ex.trans (by exact by repeat (first | exact Ex.refl _ | refine Ex.ext ?_ _ | refine Ex.alloc ?_ _ | refine Ex.drew ?_)) hx); have hs14 := Lib.hid hx.below.size; clear hx; (try clear b0 b1 b2 b3 b4); obtain ⟨b0, b1, b2, b3, b4⟩ := id hb)
    go_region_held3 (fun w' => w'.cell? ⟨w.heap.size, 0, none⟩ = some (.int .i64 c.a) ∧ w'.cell? ⟨w.heap.size, 1, none⟩ = some (.int .i64 c.b) ∧ w'.cell? ⟨w.heap.size, 2, none⟩ = some (.int .i64 c.c) ∧ w'.cell? ⟨w.heap.size, 3, none⟩ = some (.int .i64 c.d))
      (first | exact ⟨hb.c0, hb.c1, hb.c2, hb.c3⟩ | exact ⟨(hb.ex ((Ex.refl _).drew)).c0, (hb.ex ((Ex.refl _).drew)).c1, (hb.ex ((Ex.refl _).drew)).c2, (hb.ex ((Ex.refl _).drew)).c3⟩)
      (first | (go_at_call 19; refine (toA4S_o _ _ _ _ (by omega) (hz.below (by first | exact hB | exact below_ex hB ((Ex.refl _).drew)))).mono ?_; rintro e w15 ⟨grz, rfl, hx, rz⟩; have rw0 := rw0.ex (Ex.trans (by exact by repeat (first | exact Ex.refl _ | refine Ex.ext ?_ _ | refine Ex.alloc ?_ _ | refine Ex.drew ?_)) hx); have rg := rg.ex (Ex.trans (by exact by repeat (first | exact Ex.refl _ | refine Ex.ext ?_ _ | refine Ex.alloc ?_ _ | refine Ex.drew ?_)) hx); have hq15 := Lib.hid (drew_sz w14); have hb := hb.ex (Ex.trans (by exact by repeat (first | exact Ex.refl _ | refine Ex.ext ?_ _ | refine Ex.alloc ?_ _ | refine Ex.drew ?_)) hx); have hB := below_ex hB (Ex.trans (by exact by repeat (first | exact Ex.refl _ | refine Ex.ext ?_ _ | refine Ex.alloc ?_ _ | refine Ex.drew ?_)) hx); have hs15 := Lib.hid hx.below.size; clear hx; (try clear b0 b1 b2 b3 b4); obtain ⟨b0, b1, b2, b3, b4⟩ := id hb) |
        (go_at_call 39; refine (toA4_c _ _).mono ?_; rintro e w16 ⟨rfl, hx⟩; have rw0 := rw0.ex (Ex.trans (by exact by repeat (first | exact Ex.refl _ | refine Ex.ext ?_ _ | refine Ex.alloc ?_ _ | refine Ex.drew ?_)) hx); have rg := rg.ex (Ex.trans (by exact by repeat (first | exact Ex.refl _ | refine Ex.ext ?_ _ | refine Ex.alloc ?_ _ | refine Ex.drew ?_)) hx); have rz := rz.ex (Ex.trans (by exact by repeat (first | exact Ex.refl _ | refine Ex.ext ?_ _ | refine Ex.alloc ?_ _ | refine Ex.drew ?_)) hx); have hb := hb.ex (Ex.trans (by exact by repeat (first | exact Ex.refl _ | refine Ex.ext ?_ _ | refine Ex.alloc ?_ _ | refine Ex.drew ?_)) hx); have hB := below_ex hB (Ex.trans (by exact by repeat (first | exact Ex.refl _ | refine Ex.ext ?_ _ | refine Ex.alloc ?_ _ | refine Ex.drew ?_)) hx); have hs16 := Lib.hid hx.below.size; clear hx; (try clear b0 b1 b2 b3 b4); obtain ⟨b0, b1, b2, b3, b4⟩ := id hb) |
        (go_at_call 47; refine (implDropCard_c _ _ _ _ _ (by omega) (by omega) rz.sl).mono ?_; rintro e w17 ⟨qh, ch, rfl, hx, rh⟩; have rw0 := rw0.ex (Ex.trans (by exact by repeat (first | exact Ex.refl _ | refine Ex.ext ?_ _ | refine Ex.alloc ?_ _ | refine Ex.drew ?_)) hx); have rg := rg.ex (Ex.trans (by exact by repeat (first | exact Ex.refl _ | refine Ex.ext ?_ _ | refine Ex.alloc ?_ _ | refine Ex.drew ?_)) hx); have hb := hb.ex (Ex.trans (by exact by repeat (first | exact Ex.refl _ | refine Ex.ext ?_ _ | refine Ex.alloc ?_ _ | refine Ex.drew ?_)) hx); have hB := below_ex hB (Ex.trans (by exact by repeat (first | exact Ex.refl _ | refine Ex.ext ?_ _ | refine Ex.alloc ?_ _ | refine Ex.drew ?_)) hx); have hs17 := Lib.hid hx.below.size; clear hx; (try clear b0 b1 b2 b3 b4); obtain ⟨b0, b1, b2, b3, b4⟩ := id hb))
    go_wp2_with (go_at_call 22; refine (eqA4S_c _ _ _ _ _ _ _ (by omega) (by omega) rh.sl rw0.sl).mono ?_; rintro e w18 ⟨rfl, hx⟩; have rw0 := rw0.ex (Ex.trans (by exact by repeat (first | exact Ex.refl _ | refine Ex.ext ?_ _ | refine Ex.alloc ?_ _ | refine Ex.drew ?_)) hx); have rg := rg.ex (Ex.trans (by exact by repeat (first | exact Ex.refl _ | refine Ex.ext ?_ _ | refine Ex.alloc ?_ _ | refine Ex.drew ?_)) hx); have rh := rh.ex (Ex.trans (by exact by repeat (first | exact Ex.refl _ | refine Ex.ext ?_ _ | refine Ex.alloc ?_ _ | refine Ex.drew ?_)) hx); have hb := hb.ex (Ex.trans (by exact by repeat (first | exact Ex.refl _ | refine Ex.ext ?_ _ | refine Ex.alloc ?_ _ | refine Ex.drew ?_)) hx); have hB := below_ex hB (Ex.trans (by exact by repeat (first | exact Ex.refl _ | refine Ex.ext ?_ _ | refine Ex.alloc ?_ _ | refine Ex.drew ?_)) hx); have hs18 := Lib.hid hx.below.size; clear hx; (try clear b0 b1 b2 b3 b4); obtain ⟨b0, b1, b2, b3, b4⟩ := id hb)
    go_wp2_with (go_at_call 48; refine (heldA4S_c _ _ _ _ _ (by omega) (by omega) (by omega) rg.sl).mono ?_; rintro e w19 ⟨rfl, hx⟩; have rg := rg.ex (Ex.trans (by exact by repeat (first | exact Ex.refl _ | refine Ex.ext ?_ _ | refine Ex.alloc ?_ _ | refine Ex.drew ?_)) hx); have hb := hb.ex (Ex.trans (by exact by repeat (first | exact Ex.refl _ | refine Ex.ext ?_ _ | refine Ex.alloc ?_ _ | refine Ex.drew ?_)) hx); have hB := below_ex hB (Ex.trans (by exact by repeat (first | exact Ex.refl _ | refine Ex.ext ?_ _ | refine Ex.alloc ?_ _ | refine Ex.drew ?_)) hx); have hs19 := Lib.hid hx.below.size; clear hx; (try clear b0 b1 b2 b3 b4); obtain ⟨b0, b1, b2, b3, b4⟩ := id hb)
    go_ret
    exact ⟨rfl, hB⟩
  · go_enter Try.func9, Try.ntmps9
    go_wp2_with (go_at_call 17; refine (sz_c _ _ _ _ (by omega) (by omega) (by omega) _).mono ?_; rintro e w1 ⟨rfl, hx⟩; rw [szBig hs]; have hB := below_ex hB hx; clear hx)
    go_ret
    exact ⟨rfl, hB⟩
end Go.Proofs.Ytdnnjhgkcchcaaa
