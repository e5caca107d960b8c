/- The walks of HandText, and of the law on it. -/
import Derived.Test.YtnjfkgggebhelaaText
import Derived.Test.YtnjfkgggebhelaaLawG
import Derived.Test.YtnjfkgggebhelaaShelf
import Derived.Test.YtnjfkgggebhelaaOwn
import Derived.Lib.Join
namespace Go.Proofs.Ytnjfkgggebhelaa
set_option linter.unusedSimpArgs false
set_option linter.unusedVariables false
set_option maxHeartbeats 1000000
set_option maxRecDepth 100000
open Go.RowKit

theorem rowStr : RowT Try.prog 37 9 1 16 :=
  ⟨Try.underlying37, by
    have h : (Try.prog.info? 9).map (fun i => (i.zero, i.size, i.bytes)) = some (some (.string ⟨#[]⟩), 1, 16) := by kernel_rfl
    obtain ⟨i, h1, h2, h3, h4⟩ := info_parts h
    exact ⟨i, _, h1, h2, h3, h4, rfl⟩, by decide⟩
theorem join_snoc (xs : List (List UInt8)) (y sep : List UInt8) : Lib.join (xs ++ [y]) sep = if xs = [] then y else Lib.join xs sep ++ sep ++ y := by
  cases xs with
  | nil => simp [Lib.join_one]
  | cons x r =>
    rw [if_neg (by simp), List.cons_append, Lib.join_cons, Lib.join_cons]
    simp [Lib.joinTail]
def htL (cs : List C4) : List UInt8 := Lib.join (cs.map textC) [32]
def htS (cs : List C4) : ByteArray := ⟨(htL cs).toArray⟩
theorem htL_snoc (cs : List C4) (c : C4) : htL (cs ++ [c]) = if cs = [] then textC c else htL cs ++ [32] ++ textC c := by
  unfold htL
  rw [List.map_append, List.map_singleton, join_snoc]
  simp
theorem htL_len (cs : List C4) : (htL cs).length ≤ 5 * cs.length := by
  have h : ∀ n (cs : List C4), cs.length = n → (htL cs).length ≤ 5 * n := by
    intro n
    induction n with
    | zero => intro cs h; simp [List.eq_nil_of_length_eq_zero h, htL, Lib.join_nil]
    | succ n ih =>
      intro cs h
      have e : cs = cs.take n ++ [cs[n]] := by
        have := List.take_succ_eq_append_getElem (show n < cs.length by omega)
        rw [← this, List.take_of_length_le (by omega)]
      rw [e, htL_snoc]
      have h1 := ih (cs.take n) (by rw [List.length_take]; omega)
      split
      · simp [textC]; omega
      · simp [textC]; omega
  exact h _ cs rfl
theorem htS_size (cs : List C4) : (htS cs).size = (htL cs).length := by simp [htS, ByteArray.size]
theorem htS_nil : htS [] = ⟨#[]⟩ := rfl
theorem htS_one (c : C4) : htS [c] = ⟨(textC c).toArray⟩ := by
  unfold htS; rw [show [c] = [] ++ [c] from rfl, htL_snoc, if_pos rfl]
theorem htS_snoc {cs : List C4} (c : C4) (h : cs ≠ []) : htS (cs ++ [c]) = (htS cs ++ ⟨#[32]⟩) ++ ⟨(textC c).toArray⟩ := by
  apply ByteArray.ext
  simp only [htS, ByteArray.data_append]
  rw [htL_snoc, if_neg h]
  simp
theorem take_one_more {cs : List C4} {k : Nat} (h : k < cs.length) : cs.take (k + 1) = cs.take k ++ [cs[k]] := by rw [List.take_succ_eq_append_getElem h]
def strVals (xs : List ByteArray) : List Value := xs.map fun x => .string x
theorem strVals_append (a b : List ByteArray) : strVals (a ++ b) = strVals a ++ strVals b := by simp [strVals]
theorem oneS (s : ByteArray) : ∀ u ∈ [Value.string s], u.oneCell' = true := by intro u hu; simp at hu; subst hu; rfl
def cardTs (cs : List C4) : List ByteArray := cs.map fun c => ⟨(textC c).toArray⟩
theorem RowV.curS {lo g cap n : Nat} {w : World} {xs : List Value} {E size : Nat} (h : RowV E size lo w g cap n xs) : ∃ cur, lo ≤ g ∧ w.heap[g]? = some (.cells cur E (0, 0)) ∧ n ≤ cap ∧ cur.toList.take (n * size) = xs := by
  rcases h.2 with ⟨h1, _⟩ | ⟨g', cap', cur, h1, h2, h3, h4, h5, h6, h7⟩
  · simp at h1
  · simp at h1
    obtain ⟨rfl, rfl⟩ := h1
    exact ⟨cur, h2, h3, h4, h7⟩
theorem str_cells {lo g cap : Nat} {w : World} {xs : List ByteArray} (h : RowV 9 1 lo w g cap xs.length (strVals xs)) : ∀ (j : Nat) x, xs[j]? = some x → w.cell? ⟨g, 0 + j, none⟩ = some (.string x) := by
  obtain ⟨cur, h1, h2, h3, h4⟩ := h.curS
  intro j x hj
  have hjl := (List.getElem?_eq_some_iff.1 hj).1
  have e : (cur.toList.take (xs.length * 1))[j]? = some (.string x) := by rw [h4]; simp [strVals, hj]
  rw [List.getElem?_take, if_pos (by omega)] at e
  simp only [World.cell?, h2, Nat.zero_add]
  simpa using e

theorem l2Write_c (cs : List C4) (p : Option Addr) (cap : Nat) (w : World) (hn : cs.length ≤ 1000) (ho : ∀ z ∈ cs, Ok z) (hz : Sl w p cs) :
    Calls Try.prog 70 #[.slice p cs.length cap] w fun e w' => e = .returned (.string (htS cs)) ∧ Ex w w' := by
  have Hz := Lib.hid hz
  have Ho := Lib.hid ho
  clear hz ho
  go_enter Try.func70, Try.ntmps70
  go_wp2
  go_loopw [3, 4] (fun u v wr => ∃ (k : Nat) (B : ByteArray), k ≤ cs.length ∧ v = .int .i64 k ∧ u = .string B ∧ B = htS (cs.take k) ∧ Ex w wr) (fun _ v _ => cs.length - (intOf v).toNat)
  case atStart => exact ⟨0, ⟨#[]⟩, Nat.zero_le _, rfl, rfl, rfl, by repeat (first | exact Ex.refl _ | refine Ex.ext ?_ _ | refine Ex.alloc ?_ _ | refine Ex.drew ?_)⟩
  case round =>
    obtain ⟨k, B, hk, rfl, rfl, hB, hE⟩ := hrel
    have HE := Lib.hid hE
    have HB := Lib.hid hB
    have hs : B.size ≤ 5000 := by
      rw [hB, htS_size]
      have := htL_len (cs.take k)
      rw [List.length_take] at this
      omega
    clear hB
    by_cases hlt : k < cs.length
    · obtain ⟨b, o, rfl, hb, h1, h2, h3, h4⟩ := (Hz.out.ex hE) k hlt
      have hzo := Ho.out cs[k] (List.getElem_mem _)
      have Ht := Lib.hid (take_one_more hlt)
      have hlt0 : cs.length ≠ 0 := by omega
      clear hE
      generalize cs[k] = z at *
      have hts : (⟨(textC z).toArray⟩ : ByteArray).size = 4 := rfl
      cases k with
      | zero =>
        simp only [Nat.zero_mul, Nat.add_zero] at h1 h2 h3 h4
        have HS := Lib.hid (show htS (cs.take (0 + 1)) = B ++ ⟨(textC z).toArray⟩ by
          rw [Ht.out, HB.out, List.take_zero, List.nil_append, htS_one, htS_nil]
          apply ByteArray.ext; simp)
        go_wp2_with (go_at_call 108; refine (l2Text_c _ hzo _).mono ?_; rintro e w' ⟨rfl, x, rfl⟩)
        go_roundw
        case rel => exact ⟨0 + 1, _, by omega, by go_num, rfl, HS.out.symm, HE.out.trans (by repeat (first | exact Ex.refl _ | refine Ex.ext ?_ _ | refine Ex.alloc ?_ _ | refine Ex.drew ?_))⟩
        case measure => simp [intOf]; omega
      | succ j =>
        have HS := Lib.hid (show htS (cs.take (j + 1 + 1)) = (B ++ ⟨#[32]⟩) ++ ⟨(textC z).toArray⟩ by
          rw [Ht.out, HB.out, htS_snoc _ (by intro e; have := congrArg List.length e; rw [List.length_take, List.length_nil] at this; omega)])
        have hj0 : (0 : Int) < (j : Int) + 1 := by omega
        have hts2 : (B ++ (⟨#[32]⟩ : ByteArray)).size ≤ 5001 := by rw [ByteArray.size_append]; have : (⟨#[32]⟩ : ByteArray).size = 1 := rfl; omega
        go_wp2_with (go_at_call 108; refine (l2Text_c _ hzo _).mono ?_; rintro e w' ⟨rfl, x, rfl⟩)
        go_roundw
        case rel => exact ⟨j + 1 + 1, _, by omega, by go_num, rfl, HS.out.symm, HE.out.trans (by repeat (first | exact Ex.refl _ | refine Ex.ext ?_ _ | refine Ex.alloc ?_ _ | refine Ex.drew ?_))⟩
        case measure => simp [intOf]; omega
    · have : k = cs.length := by omega
      subst this
      clear hE
      go_wp2
      go_ret
      exact ⟨by rw [HB.out, List.take_length]; exact rfl, HE.out⟩

theorem cardsText_c (cs : List C4) (p : Option Addr) (cap : Nat) (w : World) (hn : cs.length ≤ 1000) (ho : ∀ z ∈ cs, Ok z) (hz : Sl w p cs) :
    Calls Try.prog 71 #[.slice p cs.length cap] w fun e w' => e = .returned (.string (htS cs)) ∧ Ex w w' := by
  have Hz := Lib.hid hz
  have Ho := Lib.hid ho
  clear hz ho
  go_enter Try.func71, Try.ntmps71
  go_wp2
  go_loopw [3, 9] (fun u v wr => ∃ (k g cap' : Nat), k ≤ cs.length ∧ v = .int .i64 k ∧ u = .slice (some ⟨g, 0, none⟩) k cap' ∧ Ex w wr ∧ RowV 9 1 w.heap.size wr g cap' k (strVals (cardTs (cs.take k)))) (fun _ v _ => cs.length - (intOf v).toNat)
  case atStart => exact ⟨0, w.heap.size, 0, Nat.zero_le _, rfl, rfl, by repeat (first | exact Ex.refl _ | refine Ex.ext ?_ _ | refine Ex.alloc ?_ _ | refine Ex.drew ?_), RowV.start' _ _ _ _ rfl⟩
  case round =>
    obtain ⟨k, g, cap', hk, rfl, rfl, hE, hrow⟩ := hrel
    have HE := Lib.hid hE
    have HR := Lib.hid hrow
    clear hrow
    by_cases hlt : k < cs.length
    · obtain ⟨b, o, rfl, hb, h1, h2, h3, h4⟩ := (Hz.out.ex hE) k hlt
      have hzo := Ho.out cs[k] (List.getElem_mem _)
      have Ht := Lib.hid (take_one_more hlt)
      have hgb := HR.out.blk
      clear hE
      generalize cs[k] = z at *
      go_wp2_with (first | (go_at_call 109; refine (cardText_c _ hzo _).mono ?_; rintro e w' ⟨rfl, x, rfl⟩) |
        (at_builtin; refine wp_app rowStr (nW := _) (by simp [go_sem]) rfl _ _ rfl rfl (HR.out.ex (by exact by repeat (first | exact Ex.refl _ | refine Ex.ext ?_ _ | refine Ex.alloc ?_ _ | refine Ex.drew ?_))) 1 1 [.string ⟨(textC z).toArray⟩] rfl rfl (oneS _) (by omega) ?c2 ?c3 ?_; (case c2 => (unfold maxLen; omega)); (case c3 => omega); intro g' cap'' wq hrow' hK hg'))
      go_roundw
      case rel =>
        (try ((repeat apply Exists.intro); refine ⟨?_, rfl⟩))
        refine ⟨k + 1, g', cap'', by omega, by go_num, rfl, Keeps.ex (HE.out.trans (by exact by repeat (first | exact Ex.refl _ | refine Ex.ext ?_ _ | refine Ex.alloc ?_ _ | refine Ex.drew ?_))) hK (by omega), ?_⟩
        have e : strVals (cardTs (cs.take (k + 1))) = strVals (cardTs (cs.take k)) ++ [.string ⟨(textC z).toArray⟩] := by rw [Ht.out]; simp [cardTs, strVals]
        rw [e]
        exact hrow'
      case measure => simp [intOf]; omega
    · have : k = cs.length := by omega
      subst this
      clear hE
      have hl : (cardTs cs).length = cs.length := by simp [cardTs]
      have hrow := HR.out
      rw [List.take_length, ← hl] at hrow
      have hcap := hrow.lens.1
      have hgb := hrow.blk.2
      have e1 : (cardTs cs).map (·.data.toList) = cs.map textC := by simp [cardTs]
      have hJ := Try.strings_Join g 0 cap' (cardTs cs) ⟨#[32]⟩ wr (str_cells hrow) hgb (by omega) hcap (by
        rw [e1]
        have := htL_len cs
        unfold htL at this
        have e2 : (⟨#[32]⟩ : ByteArray).data.toList = [32] := rfl
        rw [e2]; omega)
      rw [e1, hl] at hJ
      have HJ := Lib.hid hJ
      clear hJ hrow
      go_wp2_with (go_at_call 69; refine HJ.out.mono ?_; rintro e w7 ⟨rfl, hb7⟩)
      go_ret
      exact ⟨rfl, HE.out.trans (Ex.of_below hb7)⟩

def htR (cs : List C4) : ByteArray := if handB cs then htS cs else ⟨#[]⟩
theorem specHandText_c (cs : List C4) (p : Option Addr) (cap : Nat) (w : World) (hn : cs.length ≤ 1000000000000) (hz : Sl w p cs) :
    Calls Try.prog 33 #[.slice p cs.length cap] w fun e w' => e = .returned (.tuple #[.string (htR cs), .bool (handB cs)]) ∧ Ex w w' := by
  have Hz := Lib.hid hz
  clear hz
  cases h1 : handB cs
  · go_enter Try.func33, Try.ntmps33
    go_wp2_with (go_at_call 45; refine (l2Hand_c _ _ _ _ hn (Hz.out.ex (by repeat (first | exact Ex.refl _ | refine Ex.ext ?_ _ | refine Ex.alloc ?_ _ | refine Ex.drew ?_)))).mono ?_; rintro e w' ⟨rfl, x, rfl⟩; rw [h1])
    go_ret2
    exact ⟨by simp [htR, h1], by repeat (first | exact Ex.refl _ | refine Ex.ext ?_ _ | refine Ex.alloc ?_ _ | refine Ex.drew ?_)⟩
  · have Hh := Lib.hid (handB_ok h1)
    go_enter Try.func33, Try.ntmps33
    go_wp2_with (first | (go_at_call 45; refine (l2Hand_c _ _ _ _ hn (Hz.out.ex (by repeat (first | exact Ex.refl _ | refine Ex.ext ?_ _ | refine Ex.alloc ?_ _ | refine Ex.drew ?_)))).mono ?_; rintro e w' ⟨rfl, x, rfl⟩; rw [h1]) | (go_at_call 70; refine (l2Write_c _ _ _ _ (by have := Hh.out.2; omega) Hh.out.1 (Hz.out.ex (by repeat (first | exact Ex.refl _ | refine Ex.ext ?_ _ | refine Ex.alloc ?_ _ | refine Ex.drew ?_)))).mono ?_; rintro e w' ⟨rfl, x, rfl⟩))
    go_ret2
    exact ⟨by simp [htR, h1], by repeat (first | exact Ex.refl _ | refine Ex.ext ?_ _ | refine Ex.alloc ?_ _ | refine Ex.drew ?_)⟩
theorem implHandText_c (cs : List C4) (p : Option Addr) (cap : Nat) (w : World) (hn : cs.length ≤ 1000000000000) (hz : Sl w p cs) :
    Calls Try.prog 34 #[.slice p cs.length cap] w fun e w' => e = .returned (.tuple #[.string (htR cs), .bool (handB cs)]) ∧ Ex w w' := by
  have Hz := Lib.hid hz
  clear hz
  cases h1 : handB cs
  · go_enter Try.func34, Try.ntmps34
    go_wp2_with (go_at_call 48; refine (implIsHand_c _ _ _ _ hn (Hz.out.ex (by repeat (first | exact Ex.refl _ | refine Ex.ext ?_ _ | refine Ex.alloc ?_ _ | refine Ex.drew ?_)))).mono ?_; rintro e w' ⟨rfl, x, rfl⟩; rw [h1])
    go_ret2
    exact ⟨by simp [htR, h1], by repeat (first | exact Ex.refl _ | refine Ex.ext ?_ _ | refine Ex.alloc ?_ _ | refine Ex.drew ?_)⟩
  · have Hh := Lib.hid (handB_ok h1)
    go_enter Try.func34, Try.ntmps34
    go_wp2_with (first | (go_at_call 48; refine (implIsHand_c _ _ _ _ hn (Hz.out.ex (by repeat (first | exact Ex.refl _ | refine Ex.ext ?_ _ | refine Ex.alloc ?_ _ | refine Ex.drew ?_)))).mono ?_; rintro e w' ⟨rfl, x, rfl⟩; rw [h1]) | (go_at_call 71; refine (cardsText_c _ _ _ _ (by have := Hh.out.2; omega) Hh.out.1 (Hz.out.ex (by repeat (first | exact Ex.refl _ | refine Ex.ext ?_ _ | refine Ex.alloc ?_ _ | refine Ex.drew ?_)))).mono ?_; rintro e w' ⟨rfl, x, rfl⟩))
    go_ret2
    exact ⟨by simp [htR, h1], by repeat (first | exact Ex.refl _ | refine Ex.ext ?_ _ | refine Ex.alloc ?_ _ | refine Ex.drew ?_)⟩

theorem fnExactHandText_walk (w : World) (p : Option Addr) (cs : List C4) (cap : Nat) (hl : cs.length ≤ maxLen) (hz : Sl w p cs) : Calls Try.prog 9 #[.slice p cs.length cap] w fun e w' => e = .returned (.bool true) ∧ Below w.heap.size w w' := by
  unfold maxLen at hl
  have hB := Below.refl w.heap.size w
  by_cases hs : cs.length ≤ 1048576
  · go_enter Try.func9, Try.ntmps9
    go_wp2_with (go_at_call 12; refine (sz_c _ _ _ _ (by omega) (by omega) (by omega) _).mono ?_; rintro e w1 ⟨rfl, hx⟩; rw [szSmall hs]; have hB := below_ex hB hx; have hs1 := Lib.hid hx.below.size; clear hx)
    have h3 : ¬ ((1048576 : Int) - cs.length < 0) := by omega
    go_wp2_with (go_at_call 14; refine (toA4S_o _ _ _ _ (by omega) (hz.below hB)).mono ?_; rintro e w2 ⟨gra, rfl, hx, ra⟩; have hB := below_ex hB hx; have hs2 := Lib.hid hx.below.size; clear hx)
    go_wp2_with (go_at_call 33; refine (specHandText_c _ _ _ _ (by omega) ra.sl).mono ?_; rintro e w3 ⟨rfl, hx⟩; have hB := below_ex hB hx; have hs3 := Lib.hid hx.below.size; clear hx)
    go_wp2_with (go_at_call 14; refine (toA4S_o _ _ _ _ (by omega) (hz.below hB)).mono ?_; rintro e w4 ⟨grx, rfl, hx, rx⟩; have hB := below_ex hB hx; have hs4 := Lib.hid hx.below.size; clear hx)
    go_wp2_with (go_at_call 34; refine (implHandText_c _ _ _ _ (by omega) rx.sl).mono ?_; rintro e w5 ⟨rfl, hx⟩; have rx := rx.ex hx; have hB := below_ex hB hx; have hs5 := Lib.hid hx.below.size; clear hx)
    go_wp2_with (go_at_call 14; refine (toA4S_o _ _ _ _ (by omega) (hz.below hB)).mono ?_; rintro e w6 ⟨gry, rfl, hx, ry⟩; have rx := rx.ex hx; have hB := below_ex hB hx; have hs6 := Lib.hid hx.below.size; clear hx)
    go_wp2_with (go_at_call 16; refine (eqA4S_c _ _ _ _ _ _ _ (by omega) (by omega) rx.sl ry.sl).mono ?_; rintro e w7 ⟨rfl, hx⟩; have rx := rx.ex hx; have ry := ry.ex hx; have hB := below_ex hB hx; have hs7 := Lib.hid hx.below.size; clear hx)
    go_ret
    exact ⟨rfl, hB⟩
  · go_enter Try.func9, Try.ntmps9
    go_wp2_with (go_at_call 12; refine (sz_c _ _ _ _ (by omega) (by omega) (by omega) _).mono ?_; rintro e w1 ⟨rfl, hx⟩; rw [szBig hs]; have hB := below_ex hB hx; clear hx)
    go_ret
    exact ⟨rfl, hB⟩
end Go.Proofs.Ytnjfkgggebhelaa
