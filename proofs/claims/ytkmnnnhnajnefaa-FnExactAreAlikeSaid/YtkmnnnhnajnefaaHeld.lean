/- A region that draws its order, whose last operations wait for all others: the head under a condition on the world (loads taken first), the last ones in their order. -/
import Derived.Test.YtkmnnnhnajnefaaLib
import Derived.StillTail
import Derived.Deep.RegionHeld
namespace Go.Proofs.Ytkmnnnhnajnefaa
open Go
set_option linter.unusedVariables false

section
variable {P : Program} {ops : Array Oper} {md : Region.Mode} {S : World → Prop} {Q : Exit → Act → World → Prop}

/-- The head of a region in whatever order: the operations below 'n' alone come up; behind each S holds. -/
def wpHeadH (P : Program) (md : Region.Mode) (ops : Array Oper) (Q : Exit → Act → World → Prop) (S : World → Prop) (n : Nat) (L : Array Bool → Act → World → Prop) : Nat → Array Bool → Act → World → Prop
  | 0, listed, a, w => L listed a w
  | f + 1, listed, a, w => HeadInv md ops n listed → (Region.ready md ops listed ≠ [] ∧ ∀ i ∈ Region.ready md ops listed, i < n ∧ wpOp P ops Q i (fun a' w' => S w' ∧ wpHeadH P md ops Q S n L f (listed.setIfInBounds i true) a' w') a w)

theorem wpHeadH_sound {n g : Nat} {L : Array Bool → Act → World → Prop} (hL : ∀ listed a w, L listed a w → wpAny P md ops Q g listed a w) :
    ∀ (f : Nat) (listed : Array Bool) (a : Act) (w : World), HeadInv md ops n listed → wpHeadH P md ops Q S n L f listed a w → wpAny P md ops Q (f + g) listed a w := by
  intro f
  induction f with
  | zero => intro listed a w _ h; rw [Nat.zero_add]; exact hL _ _ _ h
  | succ f ih =>
    intro listed a w inv h
    rw [show f + 1 + g = (f + g) + 1 by omega]
    exact ⟨fun h0 => absurd h0 (h inv).1, fun i hi => wpOp_mono (fun a' w' h' => ih _ a' w' (inv.set hi ((h inv).2 i hi).1) h'.2) ((h inv).2 i hi).2⟩

theorem wpHeadH_first {n i : Nat} {oi : Oper} {v : Value} {L : Array Bool → Act → World → Prop} (hi : ops[i]? = some oi)
    (hsel : ∀ (j : Nat) (o : Oper) cs b, ops[j]? = some o → o.op ≠ .select cs b)
    (hs : Region.sinkB md ops n = true) (hc : Region.chainB md ops n = true) (hn : n < ops.size) (hin : i < n)
    (hQ : ∀ c a w, Q (.panic c) (a.put oi.dst v) w → Q (.panic c) a w)
    (hdone : ∀ listed a w, L listed a w → ∀ j ∈ Region.ready md ops listed, n ≤ j) :
    ∀ (f : Nat) (listed : Array Bool) (a : Act) (w : World),
      (∀ j oj, ops[j]? = some oj → j ≠ i → listed.getD j true = false → (∀ e ∈ oj.after, Region.binds md e = true → e.on ≠ i) → oi.apart ops oj = true) →
      i ∈ Region.ready md ops listed → YieldsIf P ops S oi v a → S w →
      wpHeadH P md ops Q S n L f (listed.setIfInBounds i true) (a.put oi.dst v) w → wpHeadH P md ops Q S n L (f + 1) listed a w := by
  intro f
  induction f with
  | zero =>
    intro listed a w _ hr hy hS H inv
    have hun := (mem_ready.1 hr).1
    refine ⟨fun h => (by rw [h] at hr; cases hr), fun j hj => ?_⟩
    have hjn : j < n := Nat.lt_of_not_le fun h => tail_waits hs hc hn inv _ i rfl hin hun j h hj
    refine ⟨hjn, ?_⟩
    by_cases hji : j = i
    · subst hji; exact hy.wpOp hi hS ⟨hS, H⟩
    · have := hdone _ _ _ H j (ready_mono hj hji); omega
  | succ f ih =>
    intro listed a w hfree hr hy hS H inv
    have hun := (mem_ready.1 hr).1
    refine ⟨fun h => (by rw [h] at hr; cases hr), fun j hj => ?_⟩
    have hjn : j < n := Nat.lt_of_not_le fun h => tail_waits hs hc hn inv _ i rfl hin hun j h hj
    refine ⟨hjn, ?_⟩
    by_cases hji : j = i
    · subst hji; exact hy.wpOp hi hS ⟨hS, H⟩
    obtain ⟨hjun, oj, hoj, hall⟩ := mem_ready.1 hj
    have hnot : ∀ e ∈ oj.after, Region.binds md e = true → e.on ≠ i := fun e he hb heq => by
      have h1 := hall e he hb
      rw [heq, getD_both hun] at h1
      cases h1
    have h2 := wpOp_putIf hoj (hfree j oj hoj hji hjun hnot) (fun cs b => hsel i oi cs b hi) (fun cs b => hsel j oj cs b hoj) hQ hy (((H (inv.set hr hin)).2 j (ready_mono hj hji)).2)
    refine wpOp_mono (fun a' w' h3 => ⟨h3.2.1, ?_⟩) h2
    refine ih (listed.setIfInBounds j true) a' w' (fun k ok hk hki hu hno => ?_) (ready_mono hr (Ne.symm hji)) h3.1 h3.2.1 (by rw [Array.setIfInBounds_comm _ _ hji]; exact h3.2.2)
    refine hfree k ok hk hki ?_ hno
    by_cases hjk : j = k
    · subst hjk; exact hjun
    · rw [getD_set_ne true hjk] at hu; exact hu

/-- What is left when the head has come up: the rest in its order. -/
def Rest (P : Program) (md : Region.Mode) (l : List Oper) (Q : Exit → Act → World → Prop) (n : Nat) (listed : Array Bool) (a : Act) (w : World) : Prop :=
  Region.seqB md l.toArray (l.length - n) n listed = true ∧ wpList P l.toArray Q (l.drop n) a w

/-- The operations that a head may count on. -/
def headB (md : Region.Mode) (ops : Array Oper) (n : Nat) : Bool :=
  Region.noSelect ops && decide (n < ops.size) && Region.sinkB md ops n && Region.chainB md ops n

variable {l : List Oper}

/-- Number 'i' of a list of operations. -/
def opOf (l : List Oper) (i : Nat) : Oper := l.getD i { dst := none, op := .move (.tmp 0), type := 0, pos := "", after := #[], guard := none }
theorem opOf_spec {l : List Oper} {i : Nat} (h : i < l.length) : l.toArray[i]? = some (opOf l i) := by
  simp [opOf, List.getD, h]
theorem opOf_zero (o : Oper) (l : List Oper) : opOf (o :: l) 0 = o := rfl
theorem opOf_succ (o : Oper) (l : List Oper) (i : Nat) : opOf (o :: l) (i + 1) = opOf l i := rfl

/-- Take number 'i' of the head first. -/
theorem headH_take {n i : Nat} {v : Value} {f : Nat} {listed : Array Bool} {a : Act} {w : World}
    (hB : headB md l.toArray n = true) (hin : i < n) (hf : Region.free md l.toArray listed i = true) (hr : (Region.ready md l.toArray listed).contains i = true)
    (hQ : ∀ c a w, Q (.panic c) (a.put (opOf l i).dst v) w → Q (.panic c) a w) (hy : YieldsIf P l.toArray S (opOf l i) v a) (hS : S w)
    (h : wpHeadH P md l.toArray Q S n (Rest P md l Q n) f (listed.setIfInBounds i true) (a.put (opOf l i).dst v) w) :
    wpHeadH P md l.toArray Q S n (Rest P md l Q n) (f + 1) listed a w := by
  simp only [headB, Bool.and_eq_true, decide_eq_true_eq] at hB
  obtain ⟨⟨⟨hsel, hn⟩, hs⟩, hc⟩ := hB
  have hi : l.toArray[i]? = some (opOf l i) := opOf_spec (by simp only [List.size_toArray] at hn; omega)
  exact wpHeadH_first hi (Region.noSelect_spec hsel) hs hc hn hin hQ (fun _ _ _ hL => seqB_ready hL.1) f listed a w (Region.free_spec hi hf) (by simpa using hr) hy hS h

/-- The one operation that may come up. -/
theorem headH_one {n i : Nat} {f : Nat} {listed : Array Bool} {a : Act} {w : World} {L : Array Bool → Act → World → Prop} (hr : Region.ready md l.toArray listed = [i]) (hin : i < n) (hn : n < l.length)
    (h : ∀ K' : Act → World → Prop, Shut (∀ a w, S w → (S w → wpHeadH P md l.toArray Q S n L f (listed.setIfInBounds i true) a w) → K' a w) → if Region.wanted (opOf l i) (yielded l.toArray a.tmps) = true then Oper.wp P (opOf l i) a w K' Q else K' (a.put (opOf l i).dst undef) w) :
    wpHeadH P md l.toArray Q S n L (f + 1) listed a w := by
  refine fun inv => ⟨by rw [hr]; simp, fun j hj => ?_⟩
  rw [hr] at hj
  obtain rfl : j = i := by simpa using hj
  exact ⟨hin, wpOp_step (opOf_spec (by omega)) (fun K' hK => h K' (fun a w hS hW => hK a w ⟨hS, hW hS⟩))⟩

/-- The head has come up. -/
theorem headH_done {n : Nat} {listed : Array Bool} {a : Act} {w : World} (hB : Region.seqB md l.toArray (l.length - n) n listed = true) (h : wpList P l.toArray Q (l.drop n) a w) :
    wpHeadH P md l.toArray Q S n (Rest P md l Q n) 0 listed a w := ⟨hB, h⟩

/-- The beginning. -/
theorem region_headH {id : Nat} {a : Act} {w : World} (n : Nat) (S : World → Prop) (hm : P.follows .mixedOrders = true) (hB : headB .any l.toArray n = true) (hS : S w.drew)
    (h : S w.drew → wpHeadH P .any l.toArray Q S n (Rest P .any l Q n) n (Array.replicate l.toArray.size false) a w.drew) :
    (Code.region id l.toArray true).wp P Q a w := by
  have hB' := hB
  simp only [headB, Bool.and_eq_true, decide_eq_true_eq] at hB
  obtain ⟨⟨⟨hsel, hn⟩, hs⟩, hc⟩ := hB
  have hn' : n < l.length := by simpa using hn
  have inv0 : HeadInv .any l.toArray n (Array.replicate l.toArray.size false) :=
    ⟨by simp, fun j oj _ hl => (by rw [getD_replicate_false] at hl; cases hl), fun t _ ht => getD_in (by simpa using ht) (getD_replicate_false _ _)⟩
  refine wp_region_any hm ?_
  have := wpHeadH_sound (P := P) (Q := Q) (S := S) (g := l.toArray.size - n) (fun listed a' w' hL => by
    have := wpAny_of_seq (md := .any) (Q' := Q) (l.drop n) n listed a' w' (fun j => by simp [List.getElem?_drop]) (by rw [List.length_drop]; exact hL.1) hL.2
    rwa [List.length_drop] at this) _ _ _ _ inv0 (h hS)
  rw [show n + (l.toArray.size - n) = l.toArray.size by omega] at this
  exact this
end
end Go.Proofs.Ytkmnnnhnajnefaa
