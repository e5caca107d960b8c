/- The walks of JoinStrings, and of the law on it. -/
import Derived.Test.YtebgkdgcjpjigaaDoorStrS
import Derived.Lib.IndexLaws
namespace Go.Proofs.YtebgkdgcjpjigaaDoor
set_option linter.unusedSimpArgs false
set_option linter.unusedVariables false
set_option maxHeartbeats 1000000
set_option maxRecDepth 100000
open Go.RowKit

def stB (x : ByteArray) (c : UInt8) : Bool := decide (c ∈ x.data.toList)
theorem index_mem (l : List UInt8) (c : UInt8) : decide (0 ≤ Lib.indexByte l c) = decide (c ∈ l) := by
  rw [Bool.eq_iff_iff, decide_eq_true_iff, decide_eq_true_iff]
  have hge := Lib.indexByte_ge l c
  constructor
  · intro h
    obtain ⟨o, ho⟩ : ∃ o : Nat, Lib.indexByte l c = o := ⟨(Lib.indexByte l c).toNat, by omega⟩
    exact List.mem_of_getElem? (Lib.indexByte_some ho).1
  · intro h
    by_cases e : Lib.indexByte l c = -1
    · obtain ⟨k, hk⟩ := List.getElem?_of_mem h
      exact absurd hk (Lib.indexByte_none e k)
    · omega
theorem contains_s (x : ByteArray) (c : UInt8) (w : World) : Calls Tryd.prog 43 #[.string x, .string ⟨#[c]⟩] w fun e w' => e = .returned (.bool (stB x c)) ∧ Ex w w' := by
  refine (Tryd.strings_Contains_one x c w).mono ?_
  rintro e w' ⟨rfl, rfl⟩
  exact ⟨by rw [index_mem]; rfl, by repeat (first | exact Ex.refl _ | refine Ex.ext ?_ _ | refine Ex.alloc ?_ _ | refine Ex.drew ?_)⟩

theorem l1Stands_c (x : ByteArray) (c : UInt8) (hx : x.size ≤ 1000000000000) (w : World) : Calls Tryd.prog 41 #[.string x, .int .u8 (c.toNat : Int)] w fun e w' => e = .returned (.bool (stB x c)) ∧ Ex w w' := by
  go_enter Tryd.func41, Tryd.ntmps41
  go_wp2
  go_loopw [5] (fun i wr => ∃ k : Nat, k ≤ x.size ∧ i = .int .i64 k ∧ (∀ j (h : j < x.size), j < k → x[j] ≠ c) ∧ Ex w wr) (fun i _ => x.size - (intOf i).toNat)
  case atStart => exact ⟨0, Nat.zero_le _, rfl, fun j _ h => by omega, Ex.refl _⟩
  case round =>
    obtain ⟨k, hk, rfl, hf, hE⟩ := hrel
    have HE := Lib.hid hE
    have Hf := Lib.hid hf
    clear hE hf
    by_cases hlt : k < x.size
    · have hc : x[k].toNat < 256 := x[k].toNat_lt
      by_cases h : x[k] = c
      · have hB := Lib.hid (show stB x c = true by rw [← h]; simp only [stB, decide_eq_true_iff]; exact Array.mem_toList_iff.2 (Array.getElem_mem (xs := x.data) hlt))
        have hn : ((x[k].toNat : Nat) : Int) = ((c.toNat : Nat) : Int) := by rw [h]
        clear h
        go_wp2
        go_ret
        exact ⟨ret_bool hB.out.symm, HE.out.trans (by repeat (first | exact Ex.refl _ | refine Ex.ext ?_ _ | refine Ex.alloc ?_ _ | refine Ex.drew ?_))⟩
      · have H := Lib.hid h
        have hn : ¬ ((x[k].toNat : Nat) : Int) = ((c.toNat : Nat) : Int) := fun e => h (UInt8.toNat_inj.1 (by omega))
        clear h
        go_wp2
        go_roundw
        case rel =>
          refine ⟨k + 1, by omega, by go_num, fun j hj hjk => ?_, HE.out.trans (by repeat (first | exact Ex.refl _ | refine Ex.ext ?_ _ | refine Ex.alloc ?_ _ | refine Ex.drew ?_))⟩
          by_cases e : j = k
          · subst e; exact H.out
          · exact Hf.out j hj (by omega)
        case measure => simp [intOf]; omega
    · have : k = x.size := by omega
      subst this
      have hB := Lib.hid (show stB x c = false by
        rw [stB, decide_eq_false_iff_not]
        intro hm
        obtain ⟨j, hj, e⟩ := List.getElem_of_mem hm
        have hj' : j < x.size := by simpa using hj
        exact Hf.out j hj' hj' (by rw [← e]; rfl))
      go_wp2
      go_ret
      exact ⟨ret_bool hB.out.symm, HE.out.trans (by repeat (first | exact Ex.refl _ | refine Ex.ext ?_ _ | refine Ex.alloc ?_ _ | refine Ex.drew ?_))⟩

theorem l1Stands_q {x : ByteArray} {c : UInt8} {r : Bool} (hr : stB x c = r) (hx : x.size ≤ 1000000000000) (w : World) : Calls Tryd.prog 41 #[.string x, .int .u8 (c.toNat : Int)] w fun e w' => e = .returned (.bool r) ∧ Ex w w' := by
  subst hr; exact l1Stands_c x c hx w

def jnS (xs : List ByteArray) (sep : ByteArray) : ByteArray := ⟨(Lib.join (xs.map (·.data.toList)) sep.data.toList).toArray⟩
theorem jnS_nil (sep : ByteArray) : jnS [] sep = ⟨#[]⟩ := rfl
theorem jnS_snoc (xs : List ByteArray) (x sep : ByteArray) : jnS (xs ++ [x]) sep = if xs = [] then x else (jnS xs sep ++ sep) ++ x := by
  apply ByteArray.ext
  unfold jnS
  rw [List.map_append, List.map_singleton, join_snoc]
  by_cases h : xs = []
  · subst h; simp
  · rw [if_neg (by simpa using h), if_neg h]; simp
theorem jnS_size (sep : ByteArray) (hs : sep.size = 1) : ∀ (xs : List ByteArray), (jnS xs sep).size = tot xs + (xs.length - 1) := by
  have h : ∀ n (xs : List ByteArray), xs.length = n → (jnS xs sep).size = tot xs + (xs.length - 1) := by
    intro n
    induction n with
    | zero => intro xs h; rw [List.eq_nil_of_length_eq_zero h]; rfl
    | succ n ih =>
      intro xs h
      have e : xs = xs.take n ++ [xs[n]] := by
        have := List.take_succ_eq_append_getElem (show n < xs.length by omega)
        rw [← this, List.take_of_length_le (by omega)]
      have hl : (xs.take n).length = n := by rw [List.length_take]; omega
      have h1 := ih (xs.take n) hl
      rw [e, jnS_snoc, tot_snoc, List.length_append, hl]
      split
      · rename_i e0
        rw [e0] at hl ⊢
        simp at hl
        subst hl
        simp [tot]
      · rename_i e0
        have : n ≠ 0 := fun e1 => e0 (List.eq_nil_of_length_eq_zero (by omega))
        rw [ByteArray.size_append, ByteArray.size_append, h1, hl, hs]
        simp; omega
  exact fun xs => h _ xs rfl
def jsB (xs : List ByteArray) (sep : ByteArray) : Bool := decide (sep.size = 1) && (decide (xs.length ≠ 0) && (xs.all (fun x => !stB x (sep.data.toList.headD 0)) && decide ((jnS xs sep).size ≤ 4000)))
def jsR (xs : List ByteArray) (sep : ByteArray) : ByteArray := if jsB xs sep then jnS xs sep else ⟨#[]⟩
theorem one_byte {s : ByteArray} (h : s.size = 1) : ∃ c, s = ⟨#[c]⟩ := by
  obtain ⟨⟨l⟩⟩ := s
  match l, h with
  | [c], _ => exact ⟨c, rfl⟩
theorem jsB_dirty {xs : List ByteArray} {c : UInt8} {z : ByteArray} (hm : z ∈ xs) (h : stB z c = true) : jsB xs ⟨#[c]⟩ = false := by
  have : xs.all (fun x => !stB x ((⟨#[c]⟩ : ByteArray).data.toList.headD 0)) = false := by
    rw [← Bool.not_eq_true, List.all_eq_true]
    intro hh
    have := hh z hm
    change (!stB z c) = true at this
    rw [h] at this; cases this
  unfold jsB
  rw [this]; simp
theorem jsB_long {xs : List ByteArray} {sep : ByteArray} (h : ¬ (jnS xs sep).size ≤ 4000) : jsB xs sep = false := by
  unfold jsB
  rw [decide_eq_false h]; simp
theorem jsB_yes {xs : List ByteArray} {c : UInt8} (h0 : xs.length ≠ 0) (hc : ∀ j (h : j < xs.length), stB xs[j] c = false) (h : (jnS xs ⟨#[c]⟩).size ≤ 4000) : jsB xs ⟨#[c]⟩ = true := by
  have h2 : xs.all (fun x => !stB x ((⟨#[c]⟩ : ByteArray).data.toList.headD 0)) = true := by
    rw [List.all_eq_true]
    intro z hz
    obtain ⟨j, hj, rfl⟩ := List.getElem_of_mem hz
    change (!stB xs[j] c) = true
    rw [hc j hj]; rfl
  unfold jsB
  rw [h2, decide_eq_true h0, decide_eq_true h]; rfl

end Go.Proofs.YtebgkdgcjpjigaaDoor
