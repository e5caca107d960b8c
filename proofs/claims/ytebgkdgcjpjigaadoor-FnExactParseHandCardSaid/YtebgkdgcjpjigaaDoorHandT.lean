/- The walks of HandText, and of the law on it. -/
import Derived.Test.YtebgkdgcjpjigaaDoorText
import Derived.Test.YtebgkdgcjpjigaaDoorLawG
import Derived.Test.YtebgkdgcjpjigaaDoorShelf
import Derived.Test.YtebgkdgcjpjigaaDoorOwn
import Derived.Lib.Join
namespace Go.Proofs.YtebgkdgcjpjigaaDoor
set_option linter.unusedSimpArgs false
set_option linter.unusedVariables false
set_option maxHeartbeats 1000000
set_option maxRecDepth 100000
open Go.RowKit

theorem rowStr : RowT Tryd.prog 28 9 1 16 :=
  ⟨Tryd.underlying28, by
    have h : (Tryd.prog.info? 9).map (fun i => (i.zero, i.size, i.bytes)) = some (some (.string ⟨#[]⟩), 1, 16) := by kernel_rfl
    obtain ⟨i, h1, h2, h3, h4⟩ := info_parts h
    exact ⟨i, _, h1, h2, h3, h4, rfl⟩, by decide⟩
theorem join_snoc (xs : List (List UInt8)) (y sep : List UInt8) : Lib.join (xs ++ [y]) sep = if xs = [] then y else Lib.join xs sep ++ sep ++ y := by
  cases xs with
  | nil => simp [Lib.join_one]
  | cons x r =>
    rw [if_neg (by simp), List.cons_append, Lib.join_cons, Lib.join_cons]
    simp [Lib.joinTail]
def htL (cs : List C4) : List UInt8 := Lib.join (cs.map textC) [32]
def htS (cs : List C4) : ByteArray := ⟨(htL cs).toArray⟩
theorem htL_snoc (cs : List C4) (c : C4) : htL (cs ++ [c]) = if cs = [] then textC c else htL cs ++ [32] ++ textC c := by
  unfold htL
  rw [List.map_append, List.map_singleton, join_snoc]
  simp
theorem htL_len (cs : List C4) : (htL cs).length ≤ 5 * cs.length := by
  have h : ∀ n (cs : List C4), cs.length = n → (htL cs).length ≤ 5 * n := by
    intro n
    induction n with
    | zero => intro cs h; simp [List.eq_nil_of_length_eq_zero h, htL, Lib.join_nil]
    | succ n ih =>
      intro cs h
      have e : cs = cs.take n ++ [cs[n]] := by
        have := List.take_succ_eq_append_getElem (show n < cs.length by omega)
        rw [← this, List.take_of_length_le (by omega)]
      rw [e, htL_snoc]
      have h1 := ih (cs.take n) (by rw [List.length_take]; omega)
      split
      · simp [textC]; omega
      · simp [textC]; omega
  exact h _ cs rfl
theorem htS_size (cs : List C4) : (htS cs).size = (htL cs).length := by simp [htS, ByteArray.size]
theorem htS_nil : htS [] = ⟨#[]⟩ := rfl
theorem htS_one (c : C4) : htS [c] = ⟨(textC c).toArray⟩ := by
  unfold htS; rw [show [c] = [] ++ [c] from rfl, htL_snoc, if_pos rfl]
theorem htS_snoc {cs : List C4} (c : C4) (h : cs ≠ []) : htS (cs ++ [c]) = (htS cs ++ ⟨#[32]⟩) ++ ⟨(textC c).toArray⟩ := by
  apply ByteArray.ext
  simp only [htS, ByteArray.data_append]
  rw [htL_snoc, if_neg h]
  simp
theorem take_one_more {cs : List C4} {k : Nat} (h : k < cs.length) : cs.take (k + 1) = cs.take k ++ [cs[k]] := by rw [List.take_succ_eq_append_getElem h]
def strVals (xs : List ByteArray) : List Value := xs.map fun x => .string x
theorem strVals_append (a b : List ByteArray) : strVals (a ++ b) = strVals a ++ strVals b := by simp [strVals]
theorem oneS (s : ByteArray) : ∀ u ∈ [Value.string s], u.oneCell' = true := by intro u hu; simp at hu; subst hu; rfl
def cardTs (cs : List C4) : List ByteArray := cs.map fun c => ⟨(textC c).toArray⟩
theorem RowV.curS {lo g cap n : Nat} {w : World} {xs : List Value} {E size : Nat} (h : RowV E size lo w g cap n xs) : ∃ cur, lo ≤ g ∧ w.heap[g]? = some (.cells cur E (0, 0)) ∧ n ≤ cap ∧ cur.toList.take (n * size) = xs := by
  rcases h.2 with ⟨h1, _⟩ | ⟨g', cap', cur, h1, h2, h3, h4, h5, h6, h7⟩
  · simp at h1
  · simp at h1
    obtain ⟨rfl, rfl⟩ := h1
    exact ⟨cur, h2, h3, h4, h7⟩
theorem str_cells {lo g cap : Nat} {w : World} {xs : List ByteArray} (h : RowV 9 1 lo w g cap xs.length (strVals xs)) : ∀ (j : Nat) x, xs[j]? = some x → w.cell? ⟨g, 0 + j, none⟩ = some (.string x) := by
  obtain ⟨cur, h1, h2, h3, h4⟩ := h.curS
  intro j x hj
  have hjl := (List.getElem?_eq_some_iff.1 hj).1
  have e : (cur.toList.take (xs.length * 1))[j]? = some (.string x) := by rw [h4]; simp [strVals, hj]
  rw [List.getElem?_take, if_pos (by omega)] at e
  simp only [World.cell?, h2, Nat.zero_add]
  simpa using e

def htR (cs : List C4) : ByteArray := if handB cs then htS cs else ⟨#[]⟩
end Go.Proofs.YtebgkdgcjpjigaaDoor
