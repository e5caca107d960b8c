/- Slices of strings: how they read; the laws' own helpers on them. -/
import Derived.Test.YtnjfkgggebhelaaHandT
import Derived.Laws.CopyRow
namespace Go.Proofs.Ytnjfkgggebhelaa
set_option linter.unusedSimpArgs false
set_option linter.unusedVariables false
set_option maxHeartbeats 1000000
set_option maxRecDepth 100000
open Go.RowKit

def SlS (w : World) (p : Option Addr) (xs : List ByteArray) : Prop := ∀ i (h : i < xs.length), ∃ b o, p = some ⟨b, o, none⟩ ∧ b < w.heap.size ∧ w.cell? ⟨b, o + i, none⟩ = some (.string xs[i])
theorem SlS.below {w w' : World} {p : Option Addr} {xs : List ByteArray} (h : SlS w p xs) (hb : Below w.heap.size w w') : SlS w' p xs := fun i hi => by
  obtain ⟨b, o, e, hl, h1⟩ := h i hi
  exact ⟨b, o, e, Nat.lt_of_lt_of_le hl hb.size, by rw [hb.cell hl]; exact h1⟩
theorem SlS.ex {w w' : World} {p : Option Addr} {xs : List ByteArray} (h : SlS w p xs) (hb : Ex w w') : SlS w' p xs := h.below hb.below
/-- All bytes of the first ones. -/
def tot (xs : List ByteArray) : Nat := (xs.map (·.size)).sum
theorem tot_snoc (xs : List ByteArray) (x : ByteArray) : tot (xs ++ [x]) = tot xs + x.size := by simp [tot]
theorem takeS {xs : List ByteArray} {k : Nat} (h : k < xs.length) : xs.take (k + 1) = xs.take k ++ [xs[k]] := by rw [List.take_succ_eq_append_getElem h]
theorem tot_take (xs : List ByteArray) (k : Nat) : tot (xs.take k) ≤ tot xs := by
  have h := congrArg tot (List.take_append_drop k xs)
  simp only [tot, List.map_append, List.sum_append] at h ⊢
  omega
def szSR (xs : List ByteArray) (left : Int) : Int := if left - xs.length - tot xs < 0 then -1 else left - xs.length - tot xs

theorem szS_c (xs : List ByteArray) (p : Option Addr) (cap : Nat) (left : Int) (w : World) (hn : xs.length ≤ 9223372036854775807) (hx : ∀ x ∈ xs, x.size ≤ 9223372036854775807) (h0 : 0 ≤ left) (h1 : left ≤ 1048576) (hz : SlS w p xs) :
    Calls Try.prog 28 #[.slice p xs.length cap, .int .i64 left] w fun e w' => e = .returned (.int .i64 (szSR xs left)) ∧ Ex w w' := by
  have Hz := Lib.hid hz
  have Hx := Lib.hid hx
  clear hz hx
  by_cases h2 : left - xs.length < 0
  · have hr : szSR xs left = -1 := by unfold szSR; rw [if_pos (by omega)]
    have hwr : IntKind.i64.wrap (left - xs.length) = left - xs.length := IntWalk.i64_in _ (by omega)
    rw [hr]
    clear hr
    go_enter Try.func28, Try.ntmps28
    go_wp2
    go_ret
    exact ⟨rfl, by repeat (first | exact Ex.refl _ | refine Ex.ext ?_ _ | refine Ex.alloc ?_ _ | refine Ex.drew ?_)⟩
  · have hwr : IntKind.i64.wrap (left - xs.length) = left - xs.length := IntWalk.i64_in _ (by omega)
    go_enter Try.func28, Try.ntmps28
    go_wp2
    go_loopw [1, 5] (fun u v wr => ∃ (k : Nat) (r : Int), k ≤ xs.length ∧ v = .int .i64 k ∧ u = .int .i64 r ∧ r = left - xs.length - tot (xs.take k) ∧ 0 ≤ r ∧ Ex w wr) (fun _ v _ => xs.length - (intOf v).toNat)
    case atStart => exact ⟨0, _, Nat.zero_le _, rfl, rfl, by simp [tot], by omega, by repeat (first | exact Ex.refl _ | refine Ex.ext ?_ _ | refine Ex.alloc ?_ _ | refine Ex.drew ?_)⟩
    case round =>
      obtain ⟨k, r, hk, rfl, rfl, hr, hr0, hE⟩ := hrel
      have HE := Lib.hid hE
      have Hr := Lib.hid hr
      have hrb : r ≤ 1048576 := by omega
      clear hr
      by_cases hlt : k < xs.length
      · obtain ⟨b, o, rfl, hb, e1⟩ := (Hz.out.ex hE) k hlt
        have hsz := Hx.out xs[k] (List.getElem_mem _)
        have Ht := Lib.hid (show tot (xs.take (k + 1)) = tot (xs.take k) + (xs[k]).size by rw [takeS hlt, tot_snoc])
        have Htt := Lib.hid (tot_take xs (k + 1))
        clear hE
        generalize xs[k] = z at *
        have hwr2 : IntKind.i64.wrap (r - z.size) = r - z.size := IntWalk.i64_in _ (by omega)
        by_cases h3 : r - z.size < 0
        · have hs : szSR xs left = -1 := by
            unfold szSR
            have e1 := Ht.out
            have e2 := Htt.out
            have e3 := Hr.out
            rw [if_pos (by omega)]
          go_wp2
          go_ret
          exact ⟨by rw [hs]; exact rfl, HE.out.trans (by repeat (first | exact Ex.refl _ | refine Ex.ext ?_ _ | refine Ex.alloc ?_ _ | refine Ex.drew ?_))⟩
        · go_wp2
          go_roundw
          case rel => exact ⟨k + 1, _, by omega, by go_num, rfl, by have := Ht.out; have := Hr.out; omega, by omega, HE.out.trans (by repeat (first | exact Ex.refl _ | refine Ex.ext ?_ _ | refine Ex.alloc ?_ _ | refine Ex.drew ?_))⟩
          case measure => simp [intOf]; omega
      · have : k = xs.length := by omega
        subst this
        clear hE
        have hs : szSR xs left = r := by
          have e3 := Hr.out
          rw [List.take_length] at e3
          unfold szSR
          rw [if_neg (by omega), e3]
        rw [← hs] at *
        go_wp2
        go_ret
        exact ⟨rfl, HE.out.trans (by repeat (first | exact Ex.refl _ | refine Ex.ext ?_ _ | refine Ex.alloc ?_ _ | refine Ex.drew ?_))⟩

theorem make_strs (n : Nat) (h : n ≤ 100000000) (w : World) : (Instr.makeSlice 37 (.int .i64 n) (.int .i64 n)).run Try.prog w =
    .ok (.slice (some ⟨w.heap.size, 0, none⟩) n n) (w.alloc (.cells (madeCells #[.string ⟨#[]⟩] n) 9)) := by
  have hi : (Try.prog.info? 9).map (fun i => (i.zero, i.size, i.bytes)) = some (some (.string ⟨#[]⟩), 1, 16) := by kernel_rfl
  obtain ⟨i, h1, h2, h3, h4⟩ := info_parts hi
  have := run_make (P := Try.prog) w 37 9 i (.string ⟨#[]⟩) Try.underlying37 h1 h2 .i64 .i64 n n (by omega) (Int.le_refl _) (by rw [h4]; omega) (by omega)
  rw [h3] at this
  simpa [Value.cells] using this

theorem toStrS_c (xs : List ByteArray) (p : Option Addr) (cap : Nat) (w : World) (hn : xs.length ≤ 2000000) (hz : SlS w p xs) :
    Calls Try.prog 30 #[.slice p xs.length cap] w fun e w' => ∃ g, e = .returned (.slice (some ⟨g, 0, none⟩) xs.length xs.length) ∧ Ex w w' ∧ SlS w' (some ⟨g, 0, none⟩) xs := by
  have hmk := make_strs xs.length (by omega)
  go_enter Try.func30, Try.ntmps30
  go_wp2
  clear hmk
  go_loopw [4] (fun v wr => ∃ k : Nat, k ≤ xs.length ∧ v = .int .i64 k ∧ ∃ (A : Array Value) (x : Ext), wr = ext (w.alloc (.cells A 9)) x ∧ A.size = xs.length ∧ ∀ j (h : j < xs.length), j < k → A[j]? = some (.string xs[j])) (fun v _ => xs.length - (intOf v).toNat)
  case atStart => exact ⟨0, Nat.zero_le _, rfl, _, _, self_ext _, by rw [size_madeCells], fun j _ hj => by omega⟩
  case round =>
    obtain ⟨k, hk, rfl, A, x, rfl, hA, hc⟩ := hrel
    have Hc := Lib.hid hc
    have HA := Lib.hid hA
    have hA' : A.size ≤ xs.length := by omega
    have hA'' : xs.length ≤ A.size := by omega
    clear hc hA
    by_cases hlt : k < xs.length
    · obtain ⟨b, o, rfl, hb, h1⟩ := hz k hlt
      have Hg := Lib.hid (List.getElem?_eq_getElem hlt)
      clear hz
      obtain ⟨u1, e1⟩ : ∃ u, A[k]? = some u := ⟨_, Array.getElem?_eq_getElem (by omega)⟩
      generalize xs[k] = z at *
      go_wp2
      go_roundw
      case rel =>
        refine ⟨k + 1, by omega, by go_num, _, _, rfl, ?_, ?_⟩
        · simp only [Array.size_setIfInBounds]; exact HA.out
        · intro j hj hjk
          rw [Array.getElem?_setIfInBounds]
          by_cases e : k = j
          · subst e
            have := Hg.out
            rw [List.getElem?_eq_getElem hj] at this
            rw [if_pos rfl, if_pos (by omega), Option.some.inj this]
          · rw [if_neg e]; exact Hc.out j hj (by omega)
      case measure => simp [intOf]; omega
    · have : k = xs.length := by omega
      subst this
      go_wp2
      go_ret
      refine ⟨w.heap.size, rfl, by repeat (first | exact Ex.refl _ | refine Ex.ext ?_ _ | refine Ex.alloc ?_ _ | refine Ex.drew ?_), fun i hi => ⟨w.heap.size, 0, rfl, by simp [ext_size]; omega, ?_⟩⟩
      have e := Hc.out i hi hi
      go_simp

theorem eqStrS_c (cs ds : List ByteArray) (p q : Option Addr) (cap cap2 : Nat) (w : World) (hn : cs.length ≤ 1000000000000) (hm : ds.length ≤ 1000000000000) (hz : SlS w p cs) (hy : SlS w q ds) :
    Calls Try.prog 32 #[.slice p cs.length cap, .slice q ds.length cap2] w fun e w' => e = .returned (.bool (decide (cs = ds))) ∧ Ex w w' := by
  by_cases hl : cs.length = ds.length
  · have Hl := Lib.hid hl
    go_enter Try.func32, Try.ntmps32
    rw [← hl]
    clear hl hm
    go_wp2
    go_loopw [5] (fun v wr => ∃ k : Nat, k ≤ cs.length ∧ v = .int .i64 k ∧ Ex w wr ∧ cs.take k = ds.take k) (fun v _ => cs.length - (intOf v).toNat)
    case atStart => exact ⟨0, Nat.zero_le _, rfl, Ex.refl _, rfl⟩
    case round =>
      obtain ⟨k, hk, rfl, ⟨x, rfl⟩, hf⟩ := hrel
      have Hf := Lib.hid hf
      clear hf
      by_cases hlt : k < cs.length
      · have hlt' : k < ds.length := by have := Hl.out; omega
        obtain ⟨b, o, rfl, hb, h1⟩ := hz k hlt
        obtain ⟨b', o', rfl, hb', h1'⟩ := hy k hlt'
        clear hz hy
        have Hd := Lib.hid (List.take_succ_eq_append_getElem hlt)
        have Hd' := Lib.hid (List.take_succ_eq_append_getElem hlt')
        have Ge := Lib.hid (List.getElem?_eq_getElem hlt)
        have Ge' := Lib.hid (List.getElem?_eq_getElem hlt')
        generalize cs[k] = z at *
        generalize ds[k] = z' at *
        clear hlt'
        by_cases hzz : z = z'
        · subst hzz
          go_wp2_with (refine region_quiet (by kernel_rfl) (by kernel_rfl) ?_; (repeat (go_big_quiet_step (fail))); refine wpQuiet_nil ?_; rintro _ ⟨x, rfl⟩)
          go_roundw
          case rel =>
            refine ⟨k + 1, by omega, by go_num, by repeat (first | exact Ex.refl _ | refine Ex.ext ?_ _ | refine Ex.alloc ?_ _ | refine Ex.drew ?_), ?_⟩
            rw [Hd.out, Hd'.out, Hf.out]
          case measure => simp [intOf]; omega
        · have Hzz := Lib.hid hzz
          have hzl : (z.toList == z'.toList) = false := beq_eq_false_iff_ne.2 fun e => hzz (by rw [Lib.toList_data, Lib.toList_data] at e; exact ByteArray.ext (Array.toList_inj.1 e))
          go_wp2_with (refine region_quiet (by kernel_rfl) (by kernel_rfl) ?_; (repeat (go_big_quiet_step (fail))); refine wpQuiet_nil ?_; rintro _ ⟨x, rfl⟩)
          go_ret
          refine ⟨ret_bool ?_, by repeat (first | exact Ex.refl _ | refine Ex.ext ?_ _ | refine Ex.alloc ?_ _ | refine Ex.drew ?_)⟩
          refine (decide_eq_false fun e => Hzz.out ?_).symm
          have e1 := Ge.out
          rw [e, Ge'.out] at e1
          exact (Option.some.inj e1).symm
      · have : k = cs.length := by omega
        subst this
        clear hz hy
        go_wp2
        go_ret
        refine ⟨ret_bool ?_, by repeat (first | exact Ex.refl _ | refine Ex.ext ?_ _ | refine Ex.alloc ?_ _ | refine Ex.drew ?_)⟩
        have e := Hf.out
        rw [List.take_length, Hl.out, List.take_length] at e
        simp [e]
  · go_enter Try.func32, Try.ntmps32
    clear hz hy
    go_wp2
    go_ret
    exact ⟨ret_bool (decide_eq_false fun e => hl (by rw [e])).symm, by repeat (first | exact Ex.refl _ | refine Ex.ext ?_ _ | refine Ex.alloc ?_ _ | refine Ex.drew ?_)⟩
end Go.Proofs.Ytnjfkgggebhelaa
