/- Slices of strings: how they read; the laws' own helpers on them. -/
import Derived.Test.YtebgkdgcjpjigaaDoorHandT
import Derived.Laws.CopyRow
namespace Go.Proofs.YtebgkdgcjpjigaaDoor
set_option linter.unusedSimpArgs false
set_option linter.unusedVariables false
set_option maxHeartbeats 1000000
set_option maxRecDepth 100000
open Go.RowKit

def SlS (w : World) (p : Option Addr) (xs : List ByteArray) : Prop := ∀ i (h : i < xs.length), ∃ b o, p = some ⟨b, o, none⟩ ∧ b < w.heap.size ∧ w.cell? ⟨b, o + i, none⟩ = some (.string xs[i])
theorem SlS.below {w w' : World} {p : Option Addr} {xs : List ByteArray} (h : SlS w p xs) (hb : Below w.heap.size w w') : SlS w' p xs := fun i hi => by
  obtain ⟨b, o, e, hl, h1⟩ := h i hi
  exact ⟨b, o, e, Nat.lt_of_lt_of_le hl hb.size, by rw [hb.cell hl]; exact h1⟩
theorem SlS.ex {w w' : World} {p : Option Addr} {xs : List ByteArray} (h : SlS w p xs) (hb : Ex w w') : SlS w' p xs := h.below hb.below
/-- All bytes of the first ones. -/
def tot (xs : List ByteArray) : Nat := (xs.map (·.size)).sum
theorem tot_snoc (xs : List ByteArray) (x : ByteArray) : tot (xs ++ [x]) = tot xs + x.size := by simp [tot]
theorem takeS {xs : List ByteArray} {k : Nat} (h : k < xs.length) : xs.take (k + 1) = xs.take k ++ [xs[k]] := by rw [List.take_succ_eq_append_getElem h]
theorem tot_take (xs : List ByteArray) (k : Nat) : tot (xs.take k) ≤ tot xs := by
  have h := congrArg tot (List.take_append_drop k xs)
  simp only [tot, List.map_append, List.sum_append] at h ⊢
  omega
def szSR (xs : List ByteArray) (left : Int) : Int := if left - xs.length - tot xs < 0 then -1 else left - xs.length - tot xs

theorem make_strs (n : Nat) (h : n ≤ 100000000) (w : World) : (Instr.makeSlice 28 (.int .i64 n) (.int .i64 n)).run Tryd.prog w =
    .ok (.slice (some ⟨w.heap.size, 0, none⟩) n n) (w.alloc (.cells (madeCells #[.string ⟨#[]⟩] n) 9)) := by
  have hi : (Tryd.prog.info? 9).map (fun i => (i.zero, i.size, i.bytes)) = some (some (.string ⟨#[]⟩), 1, 16) := by kernel_rfl
  obtain ⟨i, h1, h2, h3, h4⟩ := info_parts hi
  have := run_make (P := Tryd.prog) w 28 9 i (.string ⟨#[]⟩) Tryd.underlying28 h1 h2 .i64 .i64 n n (by omega) (Int.le_refl _) (by rw [h4]; omega) (by omega)
  rw [h3] at this
  simpa [Value.cells] using this

theorem eqStrS_c (cs ds : List ByteArray) (p q : Option Addr) (cap cap2 : Nat) (w : World) (hn : cs.length ≤ 1000000000000) (hm : ds.length ≤ 1000000000000) (hz : SlS w p cs) (hy : SlS w q ds) :
    Calls Tryd.prog 15 #[.slice p cs.length cap, .slice q ds.length cap2] w fun e w' => e = .returned (.bool (decide (cs = ds))) ∧ Ex w w' := by
  by_cases hl : cs.length = ds.length
  · have Hl := Lib.hid hl
    go_enter Tryd.func15, Tryd.ntmps15
    rw [← hl]
    clear hl hm
    go_wp2
    go_loopw [5] (fun v wr => ∃ k : Nat, k ≤ cs.length ∧ v = .int .i64 k ∧ Ex w wr ∧ cs.take k = ds.take k) (fun v _ => cs.length - (intOf v).toNat)
    case atStart => exact ⟨0, Nat.zero_le _, rfl, Ex.refl _, rfl⟩
    case round =>
      obtain ⟨k, hk, rfl, ⟨x, rfl⟩, hf⟩ := hrel
      have Hf := Lib.hid hf
      clear hf
      by_cases hlt : k < cs.length
      · have hlt' : k < ds.length := by have := Hl.out; omega
        obtain ⟨b, o, rfl, hb, h1⟩ := hz k hlt
        obtain ⟨b', o', rfl, hb', h1'⟩ := hy k hlt'
        clear hz hy
        have Hd := Lib.hid (List.take_succ_eq_append_getElem hlt)
        have Hd' := Lib.hid (List.take_succ_eq_append_getElem hlt')
        have Ge := Lib.hid (List.getElem?_eq_getElem hlt)
        have Ge' := Lib.hid (List.getElem?_eq_getElem hlt')
        generalize cs[k] = z at *
        generalize ds[k] = z' at *
        clear hlt'
        by_cases hzz : z = z'
        · subst hzz
          go_wp2_with (refine region_quiet (by kernel_rfl) (by kernel_rfl) ?_; (repeat (go_big_quiet_step (fail))); refine wpQuiet_nil ?_; rintro _ ⟨x, rfl⟩)
          go_roundw
          case rel =>
            refine ⟨k + 1, by omega, by go_num, by repeat (first | exact Ex.refl _ | refine Ex.ext ?_ _ | refine Ex.alloc ?_ _ | refine Ex.drew ?_), ?_⟩
            rw [Hd.out, Hd'.out, Hf.out]
          case measure => simp [intOf]; omega
        · have Hzz := Lib.hid hzz
          have hzl : (z.toList == z'.toList) = false := beq_eq_false_iff_ne.2 fun e => hzz (by rw [Lib.toList_data, Lib.toList_data] at e; exact ByteArray.ext (Array.toList_inj.1 e))
          go_wp2_with (refine region_quiet (by kernel_rfl) (by kernel_rfl) ?_; (repeat (go_big_quiet_step (fail))); refine wpQuiet_nil ?_; rintro _ ⟨x, rfl⟩)
          go_ret
          refine ⟨ret_bool ?_, by repeat (first | exact Ex.refl _ | refine Ex.ext ?_ _ | refine Ex.alloc ?_ _ | refine Ex.drew ?_)⟩
          refine (decide_eq_false fun e => Hzz.out ?_).symm
          have e1 := Ge.out
          rw [e, Ge'.out] at e1
          exact (Option.some.inj e1).symm
      · have : k = cs.length := by omega
        subst this
        clear hz hy
        go_wp2
        go_ret
        refine ⟨ret_bool ?_, by repeat (first | exact Ex.refl _ | refine Ex.ext ?_ _ | refine Ex.alloc ?_ _ | refine Ex.drew ?_)⟩
        have e := Hf.out
        rw [List.take_length, Hl.out, List.take_length] at e
        simp [e]
  · go_enter Tryd.func15, Tryd.ntmps15
    clear hz hy
    go_wp2
    go_ret
    exact ⟨ret_bool (decide_eq_false fun e => hl (by rw [e])).symm, by repeat (first | exact Ex.refl _ | refine Ex.ext ?_ _ | refine Ex.alloc ?_ _ | refine Ex.drew ?_)⟩
end Go.Proofs.YtebgkdgcjpjigaaDoor
