/- Small lemmas on worlds that have grown, and one on regions, used by the walks of this seat. -/
import Derived.Test.YtkmnnnhnajnefaaRows
import Derived.WalkKit
import Derived.WalkSpells
import Derived.WalkLawsBesides
import Derived.StillTail
import Derived.StillTactics
import Derived.Deep.QuietTactic
import Derived.BigQuiet
namespace Go.Proofs.Ytkmnnnhnajnefaa
open Go.RowKit

/-- What a call may leave behind: new blocks, and another count of draws. -/
structure Ext where
  blocks : Array Obj
  drawn : Nat

instance : Inhabited Ext := ⟨⟨#[], 0⟩⟩

/-- The world with new blocks behind the old ones. -/
def ext (w : World) (x : Ext) : World := { w with heap := w.heap ++ x.blocks, drawn := x.drawn }

def Ext.sz (x : Ext) : Nat := x.blocks.size

variable {w : World}

@[go_sem] theorem ext_size (x : Ext) : (ext w x).heap.size = w.heap.size + x.sz := by
  simp [ext, Ext.sz]

theorem ext_heap (x : Ext) (k : Nat) (h : k < w.heap.size) : (ext w x).heap[k]? = w.heap[k]? := by
  simp only [ext]; rw [Array.getElem?_append_left h]

@[go_sem] theorem ext_cell (x : Ext) (n i : Nat) (h : n < w.heap.size) : (ext w x).cell? ⟨n, i, none⟩ = w.cell? ⟨n, i, none⟩ := by
  simp only [World.cell?]; rw [ext_heap x n h]

@[go_sem] theorem ext_frozen (x : Ext) (n i : Nat) (h : n < w.heap.size) : (ext w x).frozen? ⟨n, i, none⟩ = w.frozen? ⟨n, i, none⟩ := by
  simp only [World.frozen?]; rw [ext_heap x n h]

@[go_sem] theorem ext_setCell (x : Ext) (n i : Nat) (v : Value) (h : n < w.heap.size) :
    (ext w x).setCell ⟨n, i, none⟩ v = ext (w.setCell ⟨n, i, none⟩ v) x := by
  simp only [World.setCell, ext]
  congr 1
  apply Array.ext_getElem?
  intro k
  rw [Array.getElem?_modify, Array.getElem?_append, Array.getElem?_append, Array.getElem?_modify]
  simp only [Array.size_modify]
  by_cases hk : n = k
  · subst hk; simp [h]
  · simp [hk]

@[go_sem] theorem ext_of_drew (x : Ext) : ext w.drew x = ext w x := rfl

@[go_sem] theorem drew_ext (x : Ext) : (ext w x).drew = ext w ⟨x.blocks, x.drawn + 1⟩ := rfl

theorem ext_drew (w : World) : w.drew = ext w ⟨#[], w.drawn + 1⟩ := by
  simp only [ext, Array.append_empty]; rfl

def Ext.app (x y : Ext) : Ext := ⟨x.blocks ++ y.blocks, y.drawn⟩

@[go_sem] theorem ext_ext (x y : Ext) : ext (ext w x) y = ext w (x.app y) := by
  simp [ext, Ext.app]

@[go_sem] theorem Ext.app_assoc (x y z : Ext) : (x.app y).app z = x.app (y.app z) := by
  simp [Ext.app]

theorem lt_u0 (n : Nat) : (n < n + 1) = True := eq_true (by omega)
theorem lt_u1 (n : Nat) (c0 : Nat) : (n < n + 1 + c0) = True := eq_true (by omega)
theorem le_u1 (n : Nat) (c0 : Nat) : (n ≤ n + c0) = True := eq_true (by omega)
theorem lt_c1 {a n : Nat} (c0 : Nat) (h : a < n) : (a < n + c0) = True := eq_true (by omega)
theorem lt_u2 (n : Nat) (c0 c1 : Nat) : (n < n + 1 + c0 + c1) = True := eq_true (by omega)
theorem le_u2 (n : Nat) (c0 c1 : Nat) : (n ≤ n + c0 + c1) = True := eq_true (by omega)
theorem lt_c2 {a n : Nat} (c0 c1 : Nat) (h : a < n) : (a < n + c0 + c1) = True := eq_true (by omega)
theorem lt_u3 (n : Nat) (c0 c1 c2 : Nat) : (n < n + 1 + c0 + c1 + c2) = True := eq_true (by omega)
theorem le_u3 (n : Nat) (c0 c1 c2 : Nat) : (n ≤ n + c0 + c1 + c2) = True := eq_true (by omega)
theorem lt_c3 {a n : Nat} (c0 c1 c2 : Nat) (h : a < n) : (a < n + c0 + c1 + c2) = True := eq_true (by omega)
theorem lt_u4 (n : Nat) (c0 c1 c2 c3 : Nat) : (n < n + 1 + c0 + c1 + c2 + c3) = True := eq_true (by omega)
theorem le_u4 (n : Nat) (c0 c1 c2 c3 : Nat) : (n ≤ n + c0 + c1 + c2 + c3) = True := eq_true (by omega)
theorem lt_c4 {a n : Nat} (c0 c1 c2 c3 : Nat) (h : a < n) : (a < n + c0 + c1 + c2 + c3) = True := eq_true (by omega)
theorem lt_u5 (n : Nat) (c0 c1 c2 c3 c4 : Nat) : (n < n + 1 + c0 + c1 + c2 + c3 + c4) = True := eq_true (by omega)
theorem le_u5 (n : Nat) (c0 c1 c2 c3 c4 : Nat) : (n ≤ n + c0 + c1 + c2 + c3 + c4) = True := eq_true (by omega)
theorem lt_c5 {a n : Nat} (c0 c1 c2 c3 c4 : Nat) (h : a < n) : (a < n + c0 + c1 + c2 + c3 + c4) = True := eq_true (by omega)
theorem lt_u6 (n : Nat) (c0 c1 c2 c3 c4 c5 : Nat) : (n < n + 1 + c0 + c1 + c2 + c3 + c4 + c5) = True := eq_true (by omega)
theorem le_u6 (n : Nat) (c0 c1 c2 c3 c4 c5 : Nat) : (n ≤ n + c0 + c1 + c2 + c3 + c4 + c5) = True := eq_true (by omega)
theorem lt_c6 {a n : Nat} (c0 c1 c2 c3 c4 c5 : Nat) (h : a < n) : (a < n + c0 + c1 + c2 + c3 + c4 + c5) = True := eq_true (by omega)
theorem lt_u7 (n : Nat) (c0 c1 c2 c3 c4 c5 c6 : Nat) : (n < n + 1 + c0 + c1 + c2 + c3 + c4 + c5 + c6) = True := eq_true (by omega)
theorem le_u7 (n : Nat) (c0 c1 c2 c3 c4 c5 c6 : Nat) : (n ≤ n + c0 + c1 + c2 + c3 + c4 + c5 + c6) = True := eq_true (by omega)
theorem lt_c7 {a n : Nat} (c0 c1 c2 c3 c4 c5 c6 : Nat) (h : a < n) : (a < n + c0 + c1 + c2 + c3 + c4 + c5 + c6) = True := eq_true (by omega)
theorem lt_u8 (n : Nat) (c0 c1 c2 c3 c4 c5 c6 c7 : Nat) : (n < n + 1 + c0 + c1 + c2 + c3 + c4 + c5 + c6 + c7) = True := eq_true (by omega)
theorem le_u8 (n : Nat) (c0 c1 c2 c3 c4 c5 c6 c7 : Nat) : (n ≤ n + c0 + c1 + c2 + c3 + c4 + c5 + c6 + c7) = True := eq_true (by omega)
theorem lt_c8 {a n : Nat} (c0 c1 c2 c3 c4 c5 c6 c7 : Nat) (h : a < n) : (a < n + c0 + c1 + c2 + c3 + c4 + c5 + c6 + c7) = True := eq_true (by omega)
theorem lt_u9 (n : Nat) (c0 c1 c2 c3 c4 c5 c6 c7 c8 : Nat) : (n < n + 1 + c0 + c1 + c2 + c3 + c4 + c5 + c6 + c7 + c8) = True := eq_true (by omega)
theorem le_u9 (n : Nat) (c0 c1 c2 c3 c4 c5 c6 c7 c8 : Nat) : (n ≤ n + c0 + c1 + c2 + c3 + c4 + c5 + c6 + c7 + c8) = True := eq_true (by omega)
theorem lt_c9 {a n : Nat} (c0 c1 c2 c3 c4 c5 c6 c7 c8 : Nat) (h : a < n) : (a < n + c0 + c1 + c2 + c3 + c4 + c5 + c6 + c7 + c8) = True := eq_true (by omega)
theorem lt_u10 (n : Nat) (c0 c1 c2 c3 c4 c5 c6 c7 c8 c9 : Nat) : (n < n + 1 + c0 + c1 + c2 + c3 + c4 + c5 + c6 + c7 + c8 + c9) = True := eq_true (by omega)
theorem le_u10 (n : Nat) (c0 c1 c2 c3 c4 c5 c6 c7 c8 c9 : Nat) : (n ≤ n + c0 + c1 + c2 + c3 + c4 + c5 + c6 + c7 + c8 + c9) = True := eq_true (by omega)
theorem lt_c10 {a n : Nat} (c0 c1 c2 c3 c4 c5 c6 c7 c8 c9 : Nat) (h : a < n) : (a < n + c0 + c1 + c2 + c3 + c4 + c5 + c6 + c7 + c8 + c9) = True := eq_true (by omega)
attribute [go_sem high] lt_u0 lt_u1 le_u1 lt_c1 lt_u2 le_u2 lt_c2 lt_u3 le_u3 lt_c3 lt_u4 le_u4 lt_c4 lt_u5 le_u5 lt_c5 lt_u6 le_u6 lt_c6 lt_u7 le_u7 lt_c7 lt_u8 le_u8 lt_c8 lt_u9 le_u9 lt_c9 lt_u10 le_u10 lt_c10

theorem ext_alloc (x : Ext) (o : Obj) : (ext w x).alloc o = ext w ⟨x.blocks.push o, x.drawn⟩ := by
  simp only [ext, Array.append_push]; rfl

theorem alloc_ext (w : World) (o : Obj) : w.alloc o = ext w ⟨#[o], w.drawn⟩ := by
  simp only [ext, Array.append_singleton]; rfl

theorem self_ext (w : World) : w = ext w ⟨#[], w.drawn⟩ := by
  simp [ext]

theorem ret_int {k : IntKind} {a b : Int} (h : a = b) : Ending.returned (.int k a) = .returned (.int k b) := by rw [h]
theorem ret_bool {a b : Bool} (h : a = b) : Ending.returned (.bool a) = .returned (.bool b) := by rw [h]

/-- 'w'' is 'w' with new blocks. -/
def Ex (w w' : World) : Prop := ∃ x, w' = ext w x

theorem Ex.refl (w : World) : Ex w w := ⟨_, self_ext w⟩
theorem Ex.ext {w w' : World} (h : Ex w w') (x : Ext) : Ex w (ext w' x) := by
  obtain ⟨y, rfl⟩ := h; exact ⟨_, ext_ext y x⟩
theorem Ex.alloc {w w' : World} (h : Ex w w') (o : Obj) : Ex w (w'.alloc o) := by
  rw [alloc_ext]; exact h.ext _
theorem Ex.drew {w w' : World} (h : Ex w w') : Ex w w'.drew := by
  rw [ext_drew]; exact h.ext _
theorem Ex.trans {a b c : World} (h : Ex a b) (k : Ex b c) : Ex a c := by
  obtain ⟨y, rfl⟩ := k; exact h.ext _
theorem Ex.below {w w' : World} (h : Ex w w') : Below w.heap.size w w' := by
  obtain ⟨x, rfl⟩ := h
  exact ⟨rfl, rfl, rfl, by rw [ext_size]; omega, fun k hk => ext_heap x k hk⟩
theorem Ex.of_below {w w' : World} (h : Below w.heap.size w w') : Ex w w' := by
  refine ⟨⟨w'.heap.extract w.heap.size w'.heap.size, w'.drawn⟩, ?_⟩
  obtain ⟨h1, h2, h3, h4, h5⟩ := h
  obtain ⟨hp, tp, dr, os, out⟩ := w'
  simp only at h1 h2 h3 h4 h5
  subst h1; subst h2; subst h3
  simp only [Go.Proofs.Ytkmnnnhnajnefaa.ext]
  congr 1
  apply Array.ext_getElem?
  intro k
  rw [Array.getElem?_append]
  split
  · rename_i hk; exact h5 k hk
  · rename_i hk
    rw [Array.getElem?_extract]
    split
    · congr 1; omega
    · rw [Array.getElem?_eq_none]; omega

section
variable {P : Program} {ops : Array Oper} {md : Region.Mode} {C : World → Prop}

/-- The head of a region in whatever order: the operations below 'n' alone come up, each quiet in the class. -/
def wpHead (P : Program) (md : Region.Mode) (ops : Array Oper) (C : World → Prop) (n : Nat) (L : Array Bool → Act → Prop) : Nat → Array Bool → Act → Prop
  | 0, listed, a => L listed a
  | f + 1, listed, a => Region.ready md ops listed ≠ [] ∧ ∀ i ∈ Region.ready md ops listed, i < n ∧ qOp P ops C i (wpHead P md ops C n L f (listed.setIfInBounds i true)) a

theorem wpHead_sound {n g : Nat} {L : Array Bool → Act → Prop} {Q : Exit → Act → World → Prop} (hL : ∀ listed a w, C w → L listed a → wpAny P md ops Q g listed a w) :
    ∀ (f : Nat) (listed : Array Bool) (a : Act) (w : World), C w → wpHead P md ops C n L f listed a → wpAny P md ops Q (f + g) listed a w := by
  intro f
  induction f with
  | zero => intro listed a w hw h; rw [Nat.zero_add]; exact hL _ _ _ hw h
  | succ f ih =>
    intro listed a w hw h
    rw [show f + 1 + g = (f + g) + 1 by omega]
    exact ⟨fun h0 => absurd h0 h.1, fun i hi => wpOp_of_qOp hw (fun a' w' hw' h' => ih _ a' w' hw' h') (h.2 i hi).2⟩

theorem wpHead_first {n i : Nat} {oi : Oper} {v : Value} {L : Array Bool → Act → Prop} (hi : ops[i]? = some oi)
    (hsel : ∀ (j : Nat) (o : Oper) cs b, ops[j]? = some o → o.op ≠ .select cs b)
    (hs : Region.sinkB md ops n = true) (hc : Region.chainB md ops n = true) (hn : n < ops.size) (hin : i < n)
    (hdone : ∀ listed a, L listed a → ∀ j ∈ Region.ready md ops listed, n ≤ j) :
    ∀ (f : Nat) (listed : Array Bool) (a : Act), HeadInv md ops n listed →
      (∀ j oj, ops[j]? = some oj → j ≠ i → listed.getD j true = false → (∀ e ∈ oj.after, Region.binds md e = true → e.on ≠ i) → oi.apart ops oj = true) →
      i ∈ Region.ready md ops listed → YieldsIn P ops C oi v a →
      wpHead P md ops C n L f (listed.setIfInBounds i true) (a.put oi.dst v) → wpHead P md ops C n L (f + 1) listed a := by
  intro f
  induction f with
  | zero =>
    intro listed a inv _ hr hy H
    have hun := (mem_ready.1 hr).1
    refine ⟨fun h => (by rw [h] at hr; cases hr), fun j hj => ?_⟩
    have hjn : j < n := Nat.lt_of_not_le fun h => tail_waits hs hc hn inv _ i rfl hin hun j h hj
    refine ⟨hjn, ?_⟩
    by_cases hji : j = i
    · subst hji; exact hy.qOp hi H
    · have := hdone _ _ H j (ready_mono hj hji); omega
  | succ f ih =>
    intro listed a inv hfree hr hy H
    have hun := (mem_ready.1 hr).1
    refine ⟨fun h => (by rw [h] at hr; cases hr), fun j hj => ?_⟩
    have hjn : j < n := Nat.lt_of_not_le fun h => tail_waits hs hc hn inv _ i rfl hin hun j h hj
    refine ⟨hjn, ?_⟩
    by_cases hji : j = i
    · subst hji; exact hy.qOp hi H
    obtain ⟨hjun, oj, hoj, hall⟩ := mem_ready.1 hj
    have hnot : ∀ e ∈ oj.after, Region.binds md e = true → e.on ≠ i := fun e he hb heq => by
      have h1 := hall e he hb
      rw [heq, getD_both hun] at h1
      cases h1
    have h2 := qOp_put hoj (hfree j oj hoj hji hjun hnot) (fun cs b => hsel i oi cs b hi) (fun cs b => hsel j oj cs b hoj) hy (H.2 j (ready_mono hj hji)).2
    refine qOp_mono (fun a' h3 => ?_) h2
    refine ih (listed.setIfInBounds j true) a' (inv.set hj hjn) (fun k ok hk hki hu hno => ?_) (ready_mono hr (Ne.symm hji)) h3.1 (by rw [Array.setIfInBounds_comm _ _ hji]; exact h3.2)
    refine hfree k ok hk hki ?_ hno
    by_cases hjk : j = k
    · subst hjk; exact hjun
    · rw [getD_set_ne true hjk] at hu; exact hu

theorem wpHead_lex {n g : Nat} {Lq : Act → Prop} (hsel : Region.noSelect ops = true) (hs : Region.sinkB md ops n = true) (hc : Region.chainB md ops n = true) (hn : n < ops.size) :
    ∀ (l : List Oper) (k : Nat) (listed : Array Bool) (a : Act), (∀ j, j < l.length → l[j]? = ops[k + j]?) → k + l.length = n → HeadInv md ops n listed →
    Region.lexHead md ops g l.length k listed = true → wpQuiet P ops C Lq l a →
    wpHead P md ops C n (fun listed' a' => Region.seqB md ops g n listed' = true ∧ Lq a') l.length listed a := by
  intro l
  induction l with
  | nil =>
    intro k listed a _ hk _ hB h
    obtain rfl : k = n := by simpa using hk
    exact ⟨by simpa [Region.lexHead] using hB, h⟩
  | cons o l ih =>
    intro k listed a hl hk inv hB h
    have h0 : ops[k]? = some o := by simpa using (hl 0 (by simp)).symm
    simp only [List.length_cons, Region.lexHead, Bool.and_eq_true] at hB hk
    obtain ⟨⟨hr, hf⟩, hB'⟩ := hB
    have hr' : k ∈ Region.ready md ops listed := by simpa using hr
    have hst : qOp P ops C k (wpQuiet P ops C Lq l) a := by unfold qOp; simp only [h0]; exact h
    obtain ⟨v, hy, hK⟩ := yieldsIn_of_qOp h0 hst
    exact wpHead_first h0 (Region.noSelect_spec hsel) hs hc hn (by omega) (fun _ _ hL => seqB_ready hL.1) l.length listed a inv (Region.free_spec h0 hf) hr' hy
      (ih (k + 1) _ _ (fun j hj => by have := hl (j + 1) (by simp; omega); simpa [Nat.add_assoc, Nat.add_comm 1 j] using this) (by omega) (inv.set hr' (by omega)) hB' hK)

/-- A region that draws its order: all operations but the last ones are quiet in the class of the worlds that have grown out of 'w'; the last ones come up in their order. -/
theorem region_tail {id : Nat} {Q : Exit → Act → World → Prop} {a : Act} {w : World} {l : List Oper} (n : Nat) (hm : P.follows .mixedOrders = true)
    (hB : Region.lexTailB .any l.toArray n = true)
    (h : wpQuiet P l.toArray (fun w' => ∃ x, w' = ext w x) (fun a' => ∀ w', (∃ x, w' = ext w x) → wpList P l.toArray Q (l.drop n) a' w') (l.take n) a) :
    (Code.region id l.toArray true).wp P Q a w := by
  simp only [Region.lexTailB, Bool.and_eq_true, decide_eq_true_eq] at hB
  obtain ⟨⟨⟨⟨hsel, hn⟩, hs⟩, hc⟩, hlex⟩ := hB
  have hn' : n < l.length := by simpa using hn
  have htl : (l.take n).length = n := by simp; omega
  have hdl : (l.drop n).length = l.toArray.size - n := by simp
  have inv0 : HeadInv .any l.toArray n (Array.replicate l.toArray.size false) :=
    ⟨by simp, fun j oj _ hl => (by rw [getD_replicate_false] at hl; cases hl), fun t _ ht => getD_in (by simpa using ht) (getD_replicate_false _ _)⟩
  have H := wpHead_lex (md := .any) (g := l.toArray.size - n) hsel hs hc hn (l.take n) 0 _ a (fun j hj => by
    have hj' : j < n := by rw [htl] at hj; exact hj
    simp [hj']) (by simpa using htl) inv0 (by rw [htl]; exact hlex) h
  refine wp_region_any hm ?_
  have := wpHead_sound (Q := Q) (g := l.toArray.size - n) (fun listed a' w' hw' hL => by
    have := wpAny_of_seq (md := .any) (Q' := Q) (l.drop n) n listed a' w' (fun j => by simp [List.getElem?_drop]) (by rw [hdl]; exact hL.1) (hL.2 w' hw')
    rwa [hdl] at this) _ _ _ { w with drawn := w.drawn + 1 } ⟨_, ext_drew w⟩ H
  rw [htl, show n + (l.toArray.size - n) = l.toArray.size by omega] at this
  exact this

/-- The same where every operation is quiet in that class. -/
theorem region_quiet {id : Nat} {Q : Exit → Act → World → Prop} {a : Act} {w : World} {l : List Oper} (hm : P.follows .mixedOrders = true) (hB : Region.lexB .any l.toArray = true)
    (h : wpQuiet P l.toArray (fun w' => ∃ x, w' = ext w x) (fun a' => ∀ w', (∃ x, w' = ext w x) → Q .normal a' w') l a) : (Code.region id l.toArray true).wp P Q a w :=
  wp_region_quiet (C := fun w' => ∃ x, w' = ext w x) hm hB ⟨_, ext_drew w⟩ (by simpa using h)
end
end Go.Proofs.Ytkmnnnhnajnefaa
