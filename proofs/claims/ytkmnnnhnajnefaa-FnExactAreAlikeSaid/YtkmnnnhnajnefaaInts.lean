/- Slices of whole numbers: how they read, what a call owns of them, and the laws' helpers on them. -/
import Derived.Test.YtkmnnnhnajnefaaLawH
namespace Go.Proofs.Ytkmnnnhnajnefaa
set_option linter.unusedSimpArgs false
set_option linter.unusedVariables false
set_option maxHeartbeats 1000000
set_option maxRecDepth 100000
open Go.RowKit

/-- The slice at 'p' reads as the numbers 'zs'. -/
def SlI (w : World) (p : Option Addr) (zs : List Int) : Prop := ∀ i (h : i < zs.length), ∃ b o, p = some ⟨b, o, none⟩ ∧ b < w.heap.size ∧ w.cell? ⟨b, o + i, none⟩ = some (.int .i64 zs[i])
def intVals (zs : List Int) : List Value := zs.map fun z => .int .i64 z
@[simp] theorem intVals_length (zs : List Int) : (intVals zs).length = zs.length := by simp [intVals]
theorem intVals_get (zs : List Int) (i : Nat) (h : i < zs.length) : (intVals zs)[i]? = some (.int .i64 zs[i]) := by simp [intVals, h]
theorem intVals_append (a b : List Int) : intVals (a ++ b) = intVals a ++ intVals b := by simp [intVals]
theorem SlI.below {w w' : World} {p : Option Addr} {zs : List Int} (h : SlI w p zs) (hb : Below w.heap.size w w') : SlI w' p zs := fun i hi => by
  obtain ⟨b, o, e, hl, h1⟩ := h i hi
  exact ⟨b, o, e, Nat.lt_of_lt_of_le hl hb.size, by rw [hb.cell hl]; exact h1⟩
theorem SlI.ex {w w' : World} {p : Option Addr} {zs : List Int} (h : SlI w p zs) (hb : Ex w w') : SlI w' p zs := h.below hb.below

/-- A row of numbers that a call owns. -/
structure RowI (lo hi : Nat) (w : World) (p : Option Addr) (cap : Nat) (zs : List Int) : Prop where
  own : w.ownsRow lo 3 1 (.slice p zs.length cap) zs.length (intVals zs)
  top : ∀ a, p = some a → a.block < hi

section
variable {lo hi cap : Nat} {w w' : World} {p : Option Addr} {zs : List Int}
theorem RowI.blk (h : RowI lo hi w p cap zs) : (p = none ∧ zs = [] ∧ cap = 0) ∨ ∃ g cur, p = some ⟨g, 0, none⟩ ∧ lo ≤ g ∧ g < hi ∧ g < w.heap.size ∧ w.heap[g]? = some (.cells cur 3 (0, 0)) ∧ zs.length ≤ cap ∧ cap ≤ maxLen ∧ cur.size = cap ∧ cur.toList.take zs.length = intVals zs := by
  rcases h.own.2 with ⟨h1, h2⟩ | ⟨g, cap', cur, h1, h2, h3, h4⟩
  · simp at h1
    exact Or.inl ⟨h1.1, List.eq_nil_of_length_eq_zero h2, h1.2.2⟩
  · simp at h1
    obtain ⟨rfl, rfl⟩ := h1
    refine Or.inr ⟨g, cur, rfl, h2, h.top _ rfl, (Array.getElem?_eq_some_iff.1 h3).1, h3, ?_⟩
    simpa using h4
theorem RowI.sl (h : RowI lo hi w p cap zs) : SlI w p zs := fun i hi' => by
  rcases h.blk with ⟨_, rfl, _⟩ | ⟨g, cur, rfl, _, _, hg, hh, hc, hm, hs, ht⟩
  · simp at hi'
  · refine ⟨g, 0, rfl, hg, ?_⟩
    rw [Nat.zero_add]
    have : cur[i]? = (intVals zs)[i]? := by rw [← ht, List.getElem?_take, if_pos hi', Array.getElem?_toList]
    simp only [World.cell?, hh]
    rw [intVals_get zs i hi'] at this
    simpa using this
theorem RowI.ex (h : RowI lo hi w p cap zs) (hb : Ex w w') : RowI lo hi w' p cap zs := by
  obtain ⟨x, rfl⟩ := hb
  exact ⟨own_ext h.own x, h.top⟩
theorem RowI.mono {lo' hi' : Nat} (h : RowI lo hi w p cap zs) (h1 : lo' ≤ lo) (h2 : hi ≤ hi') : RowI lo' hi' w p cap zs :=
  ⟨own_base h.own h1, fun a e => Nat.lt_of_lt_of_le (h.top a e) h2⟩
theorem RowI.nil (w : World) (lo hi : Nat) : RowI lo hi w none 0 [] := ⟨own_nil w lo _ _, fun a e => by cases e⟩
theorem RowV.rowI {g n : Nat} (h : RowV 3 1 lo w g cap n (intVals zs)) (hn : n = zs.length) : RowI lo w.heap.size w (some ⟨g, 0, none⟩) cap zs := by
  subst hn
  exact ⟨h, fun a e => by simp at e; subst e; exact h.blk.2⟩
theorem Apart.rowI {lo' hi' : Nat} (h : Apart lo hi w w') (hr : RowI lo' hi' w p cap zs) (hd : hi' ≤ lo ∨ hi ≤ lo') : RowI lo' hi' w' p cap zs := by
  refine ⟨⟨hr.own.1, ?_⟩, hr.top⟩
  rcases hr.own.2 with h1 | ⟨g, cap', cur, h1, h2, h3, h4⟩
  · exact Or.inl h1
  · have hg : g < hi' := hr.top ⟨g, 0, none⟩ (by simp at h1; exact h1.1)
    have hw : g < w.heap.size := (Array.getElem?_eq_some_iff.1 h3).1
    exact Or.inr ⟨g, cap', cur, h1, h2, by rw [h.same g hw (by omega)]; exact h3, h4⟩
end

theorem rowInt : RowT Try.prog 29 3 1 8 :=
  ⟨Try.underlying29, by
    have h : (Try.prog.info? 3).map (fun i => (i.zero, i.size, i.bytes)) = some (some (.int .i64 0), 1, 8) := by kernel_rfl
    obtain ⟨i, h1, h2, h3, h4⟩ := info_parts h
    exact ⟨i, _, h1, h2, h3, h4, rfl⟩, by decide⟩

theorem eqIntS_c (cs ds : List Int) (p q : Option Addr) (cap cap2 : Nat) (w : World) (hn : cs.length ≤ 1000000000000) (hm : ds.length ≤ 1000000000000) (hz : SlI w p cs) (hy : SlI w q ds) :
    Calls Try.prog 17 #[.slice p cs.length cap, .slice q ds.length cap2] w fun e w' => e = .returned (.bool (decide (cs = ds))) ∧ Ex w w' := by
  by_cases hl : cs.length = ds.length
  · have Hl := Lib.hid hl
    go_enter Try.func17, Try.ntmps17
    rw [← hl]
    clear hl hm
    go_wp2
    go_loopw [5] (fun v wr => ∃ k : Nat, k ≤ cs.length ∧ v = .int .i64 k ∧ Ex w wr ∧ cs.take k = ds.take k) (fun v _ => cs.length - (intOf v).toNat)
    case atStart => exact ⟨0, Nat.zero_le _, rfl, Ex.refl _, rfl⟩
    case round =>
      obtain ⟨k, hk, rfl, ⟨x, rfl⟩, hf⟩ := hrel
      have Hf := Lib.hid hf
      clear hf
      by_cases hlt : k < cs.length
      · have hlt' : k < ds.length := by have := Hl.out; omega
        obtain ⟨b, o, rfl, hb, h1⟩ := hz k hlt
        obtain ⟨b', o', rfl, hb', h1'⟩ := hy k hlt'
        clear hz hy
        have Hd := Lib.hid (List.take_succ_eq_append_getElem hlt)
        have Hd' := Lib.hid (List.take_succ_eq_append_getElem hlt')
        have Ge := Lib.hid (List.getElem?_eq_getElem hlt)
        have Ge' := Lib.hid (List.getElem?_eq_getElem hlt')
        generalize cs[k] = z at *
        generalize ds[k] = z' at *
        clear hlt'
        by_cases hzz : z = z'
        · subst hzz
          go_wp2_with (refine region_quiet (by kernel_rfl) (by kernel_rfl) ?_; (repeat (go_big_quiet_step (fail))); refine wpQuiet_nil ?_; rintro _ ⟨x, rfl⟩)
          go_roundw
          case rel =>
            refine ⟨k + 1, by omega, by go_num, by repeat (first | exact Ex.refl _ | refine Ex.ext ?_ _ | refine Ex.alloc ?_ _ | refine Ex.drew ?_), ?_⟩
            rw [Hd.out, Hd'.out, Hf.out]
          case measure => simp [intOf]; omega
        · have Hzz := Lib.hid hzz
          go_wp2_with (refine region_quiet (by kernel_rfl) (by kernel_rfl) ?_; (repeat (go_big_quiet_step (fail))); refine wpQuiet_nil ?_; rintro _ ⟨x, rfl⟩)
          go_ret
          refine ⟨ret_bool ?_, by repeat (first | exact Ex.refl _ | refine Ex.ext ?_ _ | refine Ex.alloc ?_ _ | refine Ex.drew ?_)⟩
          refine (decide_eq_false fun e => Hzz.out ?_).symm
          have e1 := Ge.out
          rw [e, Ge'.out] at e1
          exact (Option.some.inj e1).symm
      · have : k = cs.length := by omega
        subst this
        clear hz hy
        go_wp2
        go_ret
        refine ⟨ret_bool ?_, by repeat (first | exact Ex.refl _ | refine Ex.ext ?_ _ | refine Ex.alloc ?_ _ | refine Ex.drew ?_)⟩
        have e := Hf.out
        rw [List.take_length, Hl.out, List.take_length] at e
        simp [e]
  · go_enter Try.func17, Try.ntmps17
    clear hz hy
    go_wp2
    go_ret
    exact ⟨ret_bool (decide_eq_false fun e => hl (by rw [e])).symm, by repeat (first | exact Ex.refl _ | refine Ex.ext ?_ _ | refine Ex.alloc ?_ _ | refine Ex.drew ?_)⟩

def marksI (n : Int) (len : Nat) : List Int := (List.range len).map fun (i : Nat) => n + (i : Int)
@[simp] theorem marksI_length (n : Int) (len : Nat) : (marksI n len).length = len := by simp [marksI]
theorem marksI_get (n : Int) (len i : Nat) (h : i < (marksI n len).length) : (marksI n len)[i] = n + (i : Int) := by simp [marksI]

theorem heldIntS_c (len : Nat) (p : Option Addr) (cap : Nat) (n : Int) (w : World) (hn : len ≤ 2000000) (h0 : 0 ≤ n) (h1 : n ≤ 1000000000) (hz : SlI w p (marksI n len)) :
    Calls Try.prog 20 #[.slice p len cap, .int .i64 n] w fun e w' => e = .returned (.int .i64 (n + len)) ∧ Ex w w' := by
  go_enter Try.func20, Try.ntmps20
  go_wp2
  go_loopw [1, 5] (fun u v wr => ∃ k : Nat, k ≤ len ∧ v = .int .i64 k ∧ u = .int .i64 (n + k) ∧ Ex w wr) (fun _ v _ => len - (intOf v).toNat)
  case atStart => exact ⟨0, Nat.zero_le _, rfl, by simp, Ex.refl _⟩
  case round =>
    obtain ⟨k, hk, rfl, rfl, ⟨x, rfl⟩⟩ := hrel
    by_cases hlt : k < len
    · obtain ⟨b, o, rfl, hb, h1⟩ := hz k (by simpa using hlt)
      clear hz
      rw [marksI_get] at h1
      go_wp2
      go_roundw
      case rel => exact ⟨k + 1, by omega, by go_num, by go_num, by repeat (first | exact Ex.refl _ | refine Ex.ext ?_ _ | refine Ex.alloc ?_ _ | refine Ex.drew ?_)⟩
      case measure => simp [intOf]; omega
    · have : k = len := by omega
      subst this
      clear hz
      go_wp2
      go_ret
      exact ⟨rfl, by repeat (first | exact Ex.refl _ | refine Ex.ext ?_ _ | refine Ex.alloc ?_ _ | refine Ex.drew ?_)⟩

theorem rowI_set {lo hi cap : Nat} {w : World} {g : Nat} {cs ds : List Int} {A : Array Value} (h : RowI lo hi w (some ⟨g, 0, none⟩) cap cs) (hl : ds.length = cs.length) (hs : A.size = cap)
    (hA : ∀ j, j < ds.length → A[j]? = (intVals ds)[j]?) : RowI lo hi (setBlk w g (.cells A 3 (0, 0))) (some ⟨g, 0, none⟩) cap ds := by
  refine ⟨⟨by simp, ?_⟩, h.top⟩
  rcases h.blk with ⟨h1, h2⟩ | ⟨g', cur, h1, h2, h3, h4, h5, h6, h7, h8, h9⟩
  · simp at h1
  · simp at h1
    subst h1
    refine Or.inr ⟨g, cap, A, rfl, h2, by rw [setBlk_heap, if_pos rfl, if_pos h4], by omega, h7, by omega, ?_⟩
    apply List.ext_getElem?
    intro j
    rw [List.getElem?_take, Nat.mul_one]
    split
    · rename_i hj; rw [Array.getElem?_toList]; exact hA j hj
    · rename_i hj; rw [List.getElem?_eq_none]; simp; omega

theorem markIntS_c (cs : List Int) (p : Option Addr) (cap : Nat) (n : Int) (lo hi : Nat) (w : World) (hn : cs.length ≤ 2000000) (h0 : 0 ≤ n) (h1 : n ≤ 1000000000) (h : RowI lo hi w p cap cs) :
    Calls Try.prog 19 #[.slice p cs.length cap, .int .i64 n] w fun e w' => e = .returned (.int .i64 (n + cs.length)) ∧ RowI lo hi w' p cap (marksI n cs.length) ∧ Apart lo hi w w' := by
  rcases h.blk with ⟨rfl, rfl, rfl⟩ | ⟨g, cur, rfl, hg1, hg2, hg, hh, hc, hm, hs, ht⟩
  · have H := Lib.hid h
    clear h
    go_enter Try.func19, Try.ntmps19
    go_wp2
    refine wp_loop_rounds 1 ?_
    rw [rounds_succ]
    go_wp2
    go_ret
    exact ⟨by simp, H.out, rfl, rfl, rfl, Nat.le_refl _, fun _ _ _ => rfl⟩
  · have H := Lib.hid h
    have hset := setBlk_self hh
    have Hs := Lib.hid hs
    clear h ht hh
    unfold maxLen at hm
    suffices hsuf : Calls Try.prog 19 #[.slice (some ⟨g, 0, none⟩) cs.length cap, .int .i64 n] (setBlk w g (.cells cur 3 (0, 0))) fun e w' => e = .returned (.int .i64 (n + cs.length)) ∧
        ∃ A, w' = setBlk w g (.cells A 3 (0, 0)) ∧ A.size = cap ∧ ∀ j, j < cs.length → A[j]? = (intVals (marksI n cs.length))[j]? by
      rw [← hset] at hsuf
      refine hsuf.mono ?_
      rintro e w' ⟨rfl, A, rfl, h2, h3⟩
      exact ⟨rfl, rowI_set H.out (by simp) h2 (by simpa using h3), rfl, rfl, rfl, by rw [setBlk_size]; exact Nat.le_refl _, fun k hk hk2 => by rw [setBlk_heap, if_neg (by omega)]⟩
    clear hset
    go_enter Try.func19, Try.ntmps19
    go_wp2
    go_loopw [1, 5] (fun u v wr => ∃ k : Nat, k ≤ cs.length ∧ v = .int .i64 k ∧ u = .int .i64 (n + k) ∧ ∃ A, wr = setBlk w g (.cells A 3 (0, 0)) ∧ A.size = cap ∧ ∀ j, j < k → A[j]? = (intVals (marksI n cs.length))[j]?) (fun _ v _ => cs.length - (intOf v).toNat)
    case atStart => exact ⟨0, Nat.zero_le _, rfl, by simp, cur, rfl, Hs.out, fun j hj => by omega⟩
    case round =>
      obtain ⟨k, hk, rfl, rfl, A, rfl, hA, hf⟩ := hrel
      have Hf := Lib.hid hf
      have HA := Lib.hid hA
      clear hf hs Hs
      by_cases hlt : k < cs.length
      · obtain ⟨u1, e1⟩ : ∃ u, A[k]? = some u := ⟨_, Array.getElem?_eq_getElem (by omega)⟩
        clear hA
        go_wp2
        go_roundw
        case rel =>
          refine ⟨k + 1, by omega, by go_num, by go_num, _, rfl, ?_, fun j hj => ?_⟩
          · simp only [Array.size_setIfInBounds]; exact HA.out
          · rw [Array.getElem?_setIfInBounds]
            by_cases hjk : k = j
            · subst hjk
              rw [if_pos rfl, if_pos (by rw [HA.out]; omega), intVals_get _ _ (by simpa using hlt), marksI_get]
            · rw [if_neg hjk]; exact Hf.out j (by omega)
        case measure => simp [intOf]; omega
      · have : k = cs.length := by omega
        subst this
        clear hA
        go_wp2
        go_ret
        exact ⟨rfl, A, rfl, HA.out, Hf.out⟩
end Go.Proofs.Ytkmnnnhnajnefaa
