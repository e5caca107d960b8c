/- A region that draws its order, lays one box and stores into it: whatever the order, one box is laid among the new blocks. -/
import Derived.Test.YtkmnnnhnajnefaaLib
namespace Go.Proofs.Ytkmnnnhnajnefaa
set_option linter.unusedSimpArgs false
set_option linter.unusedVariables false
open Go.RowKit

def opAt (ops : Array Oper) (i : Nat) : Oper := ops.getD i default
def opDst (ops : Array Oper) (i : Nat) : Option Tmp := (ops[i]?).bind (·.dst)

theorem opAt_lit (l : List Oper) (i : Nat) : opAt l.toArray i = l.getD i default := by
  simp [opAt]

theorem opAt_some {ops : Array Oper} {i : Nat} (h : i < ops.size) : ops[i]? = some (opAt ops i) := by
  simp [opAt, h]
theorem opDst_at {ops : Array Oper} {i : Nat} (h : i < ops.size) : opDst ops i = (opAt ops i).dst := by
  simp [opDst, opAt_some h]

theorem getD_put (a : Act) (dst : Option Tmp) (v : Value) (t : Tmp) : (a.put dst v).tmps.getD t undef = if dst = some t ∧ t < a.tmps.size then v else a.tmps.getD t undef := by
  cases dst with
  | none => simp [Act.put]
  | some d =>
    simp only [Act.put, Array.getD_eq_getD_getElem?, Array.getElem?_setIfInBounds, Option.some.injEq]
    by_cases h : d = t
    · subst h
      by_cases h2 : d < a.tmps.size <;> simp [h2]
    · simp [h]
theorem size_put (a : Act) (dst : Option Tmp) (v : Value) : (a.put dst v).tmps.size = a.tmps.size := by
  cases dst <;> simp [Act.put]
theorem defers_put (a : Act) (dst : Option Tmp) (v : Value) : (a.put dst v).defers = a.defers := by
  cases dst <;> rfl

theorem act_ext {a b : Act} (hd : a.defers = b.defers) (hs : a.tmps.size = b.tmps.size) (h : ∀ t, a.tmps.getD t undef = b.tmps.getD t undef) : a = b := by
  obtain ⟨ta, da⟩ := a
  obtain ⟨tb, db⟩ := b
  simp only at hd hs h
  subst hd
  congr 1
  apply Array.ext hs
  intro i h1 h2
  have := h i
  simpa [Array.getD_eq_getD_getElem?, h1, h2] using this

section
variable {P : Program} {ops : Array Oper} {C : World → Prop} {aF : Act}

/-- What a lexical walk does not write stays. -/
theorem quiet_keep : ∀ (l : List Nat) (a : Act), wpQuiet P ops C (fun a => a = aF) (l.map (opAt ops)) a →
    a.defers = aF.defers ∧ a.tmps.size = aF.tmps.size ∧ ∀ t, (∀ j ∈ l, (opAt ops j).dst ≠ some t) → a.tmps.getD t undef = aF.tmps.getD t undef := by
  intro l
  induction l with
  | nil => intro a h; obtain rfl : a = aF := h; exact ⟨rfl, rfl, fun _ _ => rfl⟩
  | cons i l ih =>
    intro a h
    have key : ∃ v, wpQuiet P ops C (fun a => a = aF) (l.map (opAt ops)) (a.put (opAt ops i).dst v) := by
      simp only [List.map_cons, wpQuiet] at h
      split at h
      · obtain ⟨v, _, hn⟩ := h; exact ⟨v, hn⟩
      · exact ⟨_, h⟩
    obtain ⟨v, hv⟩ := key
    obtain ⟨h1, h2, h3⟩ := ih _ hv
    refine ⟨by rw [← h1, defers_put], by rw [← h2, size_put], fun t ht => ?_⟩
    rw [← h3 t fun j hj => ht j (by simp [hj]), getD_put, if_neg fun h => ht i (by simp) h.1]

/-- The walk's first part. -/
theorem quiet_part : ∀ (pre rest : List Nat) (a : Act), wpQuiet P ops C (fun a => a = aF) ((pre ++ rest).map (opAt ops)) a →
    ∃ a', wpQuiet P ops C (fun a => a = aF) (rest.map (opAt ops)) a' ∧ a'.tmps.size = a.tmps.size ∧ ∀ t, (∀ j ∈ pre, (opAt ops j).dst ≠ some t) → a'.tmps.getD t undef = a.tmps.getD t undef := by
  intro pre
  induction pre with
  | nil => intro rest a h; exact ⟨a, h, rfl, fun _ _ => rfl⟩
  | cons i l ih =>
    intro rest a h
    have key : ∃ v, wpQuiet P ops C (fun a => a = aF) ((l ++ rest).map (opAt ops)) (a.put (opAt ops i).dst v) := by
      simp only [List.cons_append, List.map_cons, wpQuiet] at h
      split at h
      · obtain ⟨v, _, hn⟩ := h; exact ⟨v, hn⟩
      · exact ⟨_, h⟩
    obtain ⟨v, hv⟩ := key
    obtain ⟨a', h1, h2, h3⟩ := ih rest _ hv
    refine ⟨a', h1, by rw [h2, size_put], fun t ht => ?_⟩
    rw [h3 t fun j hj => ht j (by simp [hj]), getD_put, if_neg fun h => ht i (by simp) h.1]

/-- One operation in the walk. -/
theorem quiet_one {pre post : List Nat} {i : Nat} {a : Act} (h : wpQuiet P ops C (fun a => a = aF) ((pre ++ i :: post).map (opAt ops)) a)
    (hd : ∀ j ∈ post, ∀ d, (opAt ops i).dst = some d → (opAt ops j).dst ≠ some d) :
    ∃ a' v, YieldsIn P ops C (opAt ops i) v a' ∧ a'.tmps.size = a.tmps.size ∧ (∀ d, (opAt ops i).dst = some d → d < a.tmps.size → aF.tmps.getD d undef = v) ∧
      (∀ t, (∀ j ∈ pre, (opAt ops j).dst ≠ some t) → a'.tmps.getD t undef = a.tmps.getD t undef) ∧
      (∀ t, (∀ j ∈ i :: post, (opAt ops j).dst ≠ some t) → a'.tmps.getD t undef = aF.tmps.getD t undef) := by
  obtain ⟨a', h1, h2, h3⟩ := quiet_part pre (i :: post) a h
  have key : ∃ v, YieldsIn P ops C (opAt ops i) v a' ∧ wpQuiet P ops C (fun a => a = aF) (post.map (opAt ops)) (a'.put (opAt ops i).dst v) := by
    have h1' := h1
    simp only [List.map_cons, wpQuiet] at h1
    split at h1
    · rename_i hw; obtain ⟨v, hv, hn⟩ := h1; exact ⟨v, .inl ⟨hw, hv⟩, hn⟩
    · rename_i hw; exact ⟨undef, .inr ⟨by simpa using hw, rfl⟩, h1⟩
  obtain ⟨v, hy, hn⟩ := key
  refine ⟨a', v, hy, h2, fun d hd1 hd2 => ?_, h3, (quiet_keep _ _ h1).2.2⟩
  rw [← (quiet_keep _ _ hn).2.2 d fun j hj => hd j hj d hd1, getD_put, if_pos ⟨hd1, by rw [h2]; exact hd2⟩]
end

/-- The look at the region: edges lead back; no two operations write one slot; who looks at a slot is ordered with who writes it; 'p' lays the box, 'q' stores. -/
def boxB (ops : Array Oper) (idx : List Nat) (p q dp nt : Nat) : Bool :=
  Region.noSelect ops && idx == (List.range ops.size).filter (fun i => i != p && i != q) &&
  (List.range ops.size).all (fun i => (opAt ops i).after.all fun e => !Region.binds .any e || decide (e.on < i)) &&
  (List.range ops.size).all (fun i => match (opAt ops i).dst with
    | some d => decide (d < nt) && (List.range ops.size).all fun j => i == j || (opAt ops j).dst != some d
    | none => true) &&
  (List.range ops.size).all (fun j => match (opAt ops j).dst with
    | some d => (List.range ops.size).all fun i => !((opAt ops i).looksAt ops).contains d || (if j < i then Region.waitsFor .any ops i j else decide (i < j) && Region.waitsFor .any ops j i)
    | none => true) &&
  decide (p < q) && decide (q < ops.size) && Region.waitsFor .any ops q p && (opAt ops p).dst == some dp && (opAt ops q).dst == none && (opAt ops p).guard.isNone && (opAt ops q).guard.isNone &&
  (List.range ops.size).all (fun i => i == q || !((opAt ops i).looksAt ops).contains dp)

structure Box (ops : Array Oper) (idx : List Nat) (p q dp nt : Nat) : Prop where
  sel : Region.noSelect ops = true
  mem : ∀ i, i ∈ idx ↔ i < ops.size ∧ i ≠ p ∧ i ≠ q
  asc : idx.Pairwise (· < ·)
  back : ∀ i, i < ops.size → ∀ e ∈ (opAt ops i).after, Region.binds .any e = true → e.on < i
  inb : ∀ i d, i < ops.size → (opAt ops i).dst = some d → d < nt
  dist : ∀ i j d, i < ops.size → j < ops.size → (opAt ops i).dst = some d → (opAt ops j).dst = some d → i = j
  look : ∀ i j d, i < ops.size → j < ops.size → (opAt ops j).dst = some d → d ∈ (opAt ops i).looksAt ops →
    (j < i ∧ Region.waitsFor .any ops i j = true) ∨ (i < j ∧ Region.waitsFor .any ops j i = true)
  pq : p < q
  qn : q < ops.size
  wait : Region.waitsFor .any ops q p = true
  pd : (opAt ops p).dst = some dp
  qd : (opAt ops q).dst = none
  pg : (opAt ops p).guard = none
  qg : (opAt ops q).guard = none
  alone : ∀ i, i < ops.size → i ≠ q → dp ∉ (opAt ops i).looksAt ops

theorem box_of {ops : Array Oper} {idx : List Nat} {p q dp nt : Nat} (h : boxB ops idx p q dp nt = true) : Box ops idx p q dp nt := by
  simp only [boxB, Bool.and_eq_true, List.all_eq_true, List.mem_range, beq_iff_eq, decide_eq_true_eq] at h
  obtain ⟨⟨⟨⟨⟨⟨⟨⟨⟨⟨⟨⟨h1, h2⟩, h3⟩, h4⟩, h5⟩, h6⟩, h7⟩, h8⟩, h9⟩, h10⟩, h11⟩, h12⟩, h13⟩ := h
  refine ⟨h1, fun i => ?_, ?_, fun i hi e he hb => ?_, fun i d hi hd => ?_, fun i j d hi hj hd hd' => ?_, fun i j d hi hj hd hl => ?_, h6, h7, h8, h9, h10, by simpa using h11, by simpa using h12, fun i hi hq => ?_⟩
  · rw [h2]; simp [and_assoc]
  · rw [h2]; exact (List.pairwise_lt_range).filter _
  · have h3' := h3 i hi
    have := Array.all_eq_true'.1 h3' e he
    simpa [hb] using this
  · have := h4 i hi
    simp only [hd, Bool.and_eq_true, decide_eq_true_eq] at this
    exact this.1
  · have := h4 i hi
    simp only [hd, Bool.and_eq_true, decide_eq_true_eq, List.all_eq_true, List.mem_range] at this
    have := this.2 j hj
    simpa [hd'] using this
  · have := h5 j hj
    simp only [hd, List.all_eq_true, List.mem_range] at this
    have := this i hi
    simp only [List.contains_eq_mem, hl, decide_true, Bool.not_true, Bool.false_or] at this
    by_cases hji : j < i
    · rw [if_pos hji] at this; exact .inl ⟨hji, this⟩
    · rw [if_neg hji] at this; simp only [Bool.and_eq_true, decide_eq_true_eq] at this; exact .inr this
  · have := h13 i hi
    simpa [hq] using this

theorem waits_edge {ops : Array Oper} {i j : Nat} (h : Region.waitsFor .any ops i j = true) (hi : i < ops.size) : ∃ e ∈ (opAt ops i).after, Region.binds .any e = true ∧ e.on = j := by
  obtain ⟨oj, hj, e, he, hb, ho⟩ := Region.waitsFor_spec h
  rw [opAt_some hi] at hj
  obtain rfl := Option.some.inj hj
  exact ⟨e, he, hb, ho⟩

/-- How many have not come up yet. -/
def left (n : Nat) (listed : Array Bool) : Nat := ((List.range n).filter fun i => !listed.getD i false).length

theorem filter_le {f g : Nat → Bool} (h : ∀ x, g x = true → f x = true) : ∀ l : List Nat, (l.filter g).length ≤ (l.filter f).length := by
  intro l
  induction l with
  | nil => simp
  | cons x l ih =>
    cases hg : g x
    · cases hf : f x <;> simp [List.filter_cons, hg, hf] <;> omega
    · simp [List.filter_cons, hg, h x hg]; omega
theorem filter_lt {f g : Nat → Bool} (h : ∀ x, g x = true → f x = true) {i : Nat} (hf : f i = true) (hg : g i = false) : ∀ l : List Nat, i ∈ l → (l.filter g).length < (l.filter f).length := by
  intro l
  induction l with
  | nil => intro h; simp at h
  | cons x l ih =>
    intro hm
    by_cases hx : i = x
    · subst hx
      have := filter_le h l
      simp [List.filter_cons, hg, hf]; omega
    · have hl : i ∈ l := by rcases List.mem_cons.1 hm with h | h; exact absurd h hx; exact h
      have := ih hl
      cases hg' : g x
      · cases hf' : f x <;> simp [List.filter_cons, hg', hf'] <;> omega
      · simp [List.filter_cons, hg', h x hg']; omega
theorem left_set {n i : Nat} {listed : Array Bool} (hi : i < n) (hs : n ≤ listed.size) (hu : listed.getD i false = false) : left n (listed.setIfInBounds i true) < left n listed := by
  unfold left
  refine filter_lt (fun x hx => ?_) (i := i) (by rw [hu]; rfl) ?_ _ (List.mem_range.2 hi)
  · by_cases hxi : i = x
    · subst hxi; rw [hu]; rfl
    · rw [getD_set_ne false hxi] at hx; exact hx
  · have : (listed.setIfInBounds i true).getD i false = true := by
      rw [Array.getD_eq_getD_getElem?, Array.getElem?_setIfInBounds, if_pos rfl, if_pos (by omega)]; rfl
    rw [this]; rfl

theorem left_zero {n : Nat} {listed : Array Bool} (h : left n listed = 0) : ∀ i, i < n → listed.getD i false = true := by
  intro i hi
  unfold left at h
  have := List.filter_eq_nil_iff.1 (List.eq_nil_of_length_eq_zero h) i (List.mem_range.2 hi)
  simpa using this

section
variable {P : Program} {ops : Array Oper} {idx : List Nat} {p q dp nt : Nat} {a0 aF : Act} {W : World} {T : TypeId} {z c : Array Value} {s : Tmp}

structure ActIs (ops : Array Oper) (p nt : Nat) (a0 aF : Act) (S : Array Bool) (ptr : Value) (a : Act) : Prop where
  defers : a.defers = aF.defers
  size : a.tmps.size = nt
  hit : ∀ j t, j < ops.size → S.getD j false = true → (opAt ops j).dst = some t → a.tmps.getD t undef = if j = p then ptr else aF.tmps.getD t undef
  miss : ∀ t, (∀ j, j < ops.size → S.getD j false = true → (opAt ops j).dst ≠ some t) → a.tmps.getD t undef = a0.tmps.getD t undef

def Closed (ops : Array Oper) (S : Array Bool) : Prop := ∀ j, j < ops.size → S.getD j false = true → ∀ e ∈ (opAt ops j).after, Region.binds .any e = true → S.getD e.on false = true

structure WPh (W : World) (T : TypeId) (z c : Array Value) (p q : Nat) (S : Array Bool) (b : Nat) (w : World) : Prop where
  none : S.getD p false = false → Ex W w
  laid : S.getD p false = true → S.getD q false = false → ∃ x1 x2, b = (ext W x1).heap.size ∧ w = ext ((ext W x1).alloc (.cells z T)) x2
  full : S.getD q false = true → ∃ x1 x2, b = (ext W x1).heap.size ∧ w = ext ((ext W x1).alloc (.cells c T)) x2

theorem set_same {S : Array Bool} {i : Nat} (h : i < S.size) : (S.setIfInBounds i true).getD i false = true := by
  rw [Array.getD_eq_getD_getElem?, Array.getElem?_setIfInBounds, if_pos rfl, if_pos h]; rfl

theorem getD_or {S : Array Bool} {i : Nat} (h : i < S.size) (hu : S.getD i true = false) : S.getD i false = false := by
  simp [Array.getD_eq_getD_getElem?, h] at hu ⊢; exact hu

theorem closed_set {S : Array Bool} (hs : S.size = ops.size) (hc : Closed ops S) {i : Nat} (hi : i ∈ Region.ready .any ops S) : Closed ops (S.setIfInBounds i true) := by
  obtain ⟨hu, oi, hoi, hall⟩ := mem_ready.1 hi
  have hin : i < ops.size := (Array.getElem?_eq_some_iff.1 hoi).1
  intro j hj hl e he hb
  by_cases hij : i = j
  · subst hij
    rw [opAt_some hin] at hoi
    obtain rfl := Option.some.inj hoi
    exact getD_set_true (hall e he hb)
  · rw [getD_set_ne false hij] at hl
    exact getD_set_true (hc j hj hl e he hb)

/-- The frame behind one more operation. -/
theorem ActIs.put (B : Box ops idx p q dp nt) {S : Array Bool} (hs : S.size = ops.size) {ptr ptr' : Value} {a : Act} (h : ActIs ops p nt a0 aF S ptr a) {i : Nat} (hi : i < ops.size) (hu : S.getD i false = false)
    {v : Value} (hv : ∀ d, (opAt ops i).dst = some d → v = if i = p then ptr' else aF.tmps.getD d undef) (hp : S.getD p false = true → ptr' = ptr) :
    ActIs ops p nt a0 aF (S.setIfInBounds i true) ptr' (a.put (opAt ops i).dst v) := by
  refine ⟨by rw [defers_put, h.defers], by rw [size_put, h.size], fun j t hj hl hd => ?_, fun t ht => ?_⟩
  · rw [getD_put]
    by_cases hij : i = j
    · subst hij
      rw [if_pos ⟨hd, by rw [h.size]; exact B.inb i t hi hd⟩]
      exact hv t hd
    · rw [getD_set_ne false hij] at hl
      rw [if_neg fun hh => hij (B.dist i j t hi hj hh.1 hd), h.hit j t hj hl hd]
      by_cases hjp : j = p
      · subst hjp; rw [if_pos rfl, if_pos rfl, hp hl]
      · rw [if_neg hjp, if_neg hjp]
  · rw [getD_put, if_neg fun hh => ht i hi (set_same (by omega)) hh.1]
    exact h.miss t fun j hj hl hd => ht j hj (getD_set_true hl) hd

/-- What an operation sees is what it sees in the walk of the text. -/
theorem sees (B : Box ops idx p q dp nt) {S : Array Bool} {ptr : Value} {a a' : Act} (h : ActIs ops p nt a0 aF S ptr a) (hc : Closed ops S) {i : Nat} (hi : i < ops.size) (hiq : i ≠ q) (hu : S.getD i false = false)
    (hr : ∀ e ∈ (opAt ops i).after, Region.binds .any e = true → S.getD e.on false = true) {pre post : List Nat} (hidx : idx = pre ++ i :: post)
    (hm : ∀ t, (∀ j ∈ pre, (opAt ops j).dst ≠ some t) → a'.tmps.getD t undef = a0.tmps.getD t undef)
    (hh : ∀ t, (∀ j ∈ i :: post, (opAt ops j).dst ≠ some t) → a'.tmps.getD t undef = aF.tmps.getD t undef) :
    ∀ t ∈ (opAt ops i).looksAt ops, a.tmps.getD t undef = a'.tmps.getD t undef := by
  have hasc := B.asc
  rw [hidx] at hasc
  obtain ⟨_, hpost, hcross⟩ := List.pairwise_append.1 hasc
  have hpi : ∀ j ∈ pre, j < i := fun j hj => hcross j hj i (by simp)
  have hip : ∀ j ∈ post, i < j := fun j hj => (List.pairwise_cons.1 hpost).1 j hj
  have inpre : ∀ j, j < ops.size → j ≠ p → j ≠ q → j < i → j ∈ pre := fun j hj h1 h2 h3 => by
    have : j ∈ idx := (B.mem j).2 ⟨hj, h1, h2⟩
    rw [hidx] at this
    rcases List.mem_append.1 this with h | h
    · exact h
    · rcases List.mem_cons.1 h with h | h
      · omega
      · have := hip j h; omega
  have insize : ∀ j, j ∈ pre ++ i :: post → j < ops.size := fun j hj => ((B.mem j).1 (by rw [hidx]; exact hj)).1
  intro t ht
  by_cases hw : ∃ j, j < ops.size ∧ (opAt ops j).dst = some t
  · obtain ⟨j, hj, hd⟩ := hw
    have hjp : j ≠ p := fun e => by
      subst e
      rw [B.pd] at hd
      obtain rfl := Option.some.inj hd
      exact B.alone i hi hiq ht
    have hjq : j ≠ q := fun e => by subst e; rw [B.qd] at hd; cases hd
    rcases B.look i j t hi hj hd ht with ⟨hji, hwt⟩ | ⟨hij, hwt⟩
    · obtain ⟨e, he, hb, ho⟩ := waits_edge hwt hi
      have hl := hr e he hb
      rw [ho] at hl
      rw [h.hit j t hj hl hd, if_neg hjp]
      refine (hh t fun k hk hkd => ?_).symm
      have := B.dist k j t (insize k (List.mem_append.2 (.inr hk))) hj hkd hd
      subst this
      rcases List.mem_cons.1 hk with h | h
      · omega
      · have := hip k h; omega
    · have hnl : S.getD j false = false := by
        cases hl : S.getD j false with
        | false => rfl
        | true =>
          obtain ⟨e, he, hb, ho⟩ := waits_edge hwt hj
          have := hc j hj hl e he hb
          rw [ho, hu] at this
          cases this
      rw [h.miss t fun k hk hkl hkd => by
        have := B.dist k j t hk hj hkd hd
        subst this
        rw [hnl] at hkl; cases hkl]
      refine (hm t fun k hk hkd => ?_).symm
      have := B.dist k j t (insize k (by simp [hk])) hj hkd hd
      subst this
      have := hpi k hk; omega
  · have hw' : ∀ j, j < ops.size → (opAt ops j).dst ≠ some t := fun j hj hd => hw ⟨j, hj, hd⟩
    rw [h.miss t fun j hj _ => hw' j hj]
    exact (hm t fun j hj => hw' j (insize j (by simp [hj]))).symm

theorem yielded_same {a a' : Act} {g : Nat} (hs : a.tmps.size = a'.tmps.size) (h : ∀ t, opDst ops g = some t → a.tmps.getD t undef = a'.tmps.getD t undef) : yielded ops a.tmps g = yielded ops a'.tmps g := by
  unfold yielded
  cases hd : (ops[g]?).bind (·.dst) with
  | none => rfl
  | some t =>
    have := h t hd
    simp only [Option.bind_some]
    rw [Array.getD_eq_getD_getElem?, Array.getD_eq_getD_getElem?] at this
    by_cases ht : t < a.tmps.size
    · have ht' : t < a'.tmps.size := by rw [← hs]; exact ht
      simp only [Array.getElem?_eq_getElem ht, Array.getElem?_eq_getElem ht', Option.getD_some] at this ⊢
      rw [this]
    · rw [Array.getElem?_eq_none (Nat.le_of_not_lt ht), Array.getElem?_eq_none (by rw [← hs]; exact Nat.le_of_not_lt ht)]

theorem same_op {o : Oper} {a a' : Act} (hsel : ∀ cs b, o.op ≠ .select cs b) (hs : a.tmps.size = a'.tmps.size) (h : ∀ t ∈ o.looksAt ops, a.tmps.getD t undef = a'.tmps.getD t undef) :
    execOp a.eval o = execOp a'.eval o ∧ Region.wanted o (yielded ops a.tmps) = Region.wanted o (yielded ops a'.tmps) := by
  constructor
  · refine execOp_congr o hsel fun x hx => ?_
    cases x with
    | tmp t => exact h t (List.mem_append_left _ (List.mem_filterMap.2 ⟨.tmp t, by simpa using hx, rfl⟩))
    | const v => rfl
    | global g => rfl
    | func f => rfl
  · unfold Region.wanted
    cases hg : o.guard with
    | none => rfl
    | some gw =>
      obtain ⟨g, want⟩ := gw
      have : yielded ops a.tmps g = yielded ops a'.tmps g := yielded_same hs fun t ht => h t (by
        simp only [Oper.looksAt, hg]
        refine List.mem_append_right _ ?_
        simp only [opDst] at ht
        simp [ht])
      simp only [this]

theorem ex_of {w1 : World} (h : Ex W w1) (o : Obj) (x : Ext) : Ex W (ext (w1.alloc o) x) := (h.alloc o).ext x

theorem box_main {md : Unit} {Q : Exit → Act → World → Prop} (B : Box ops idx p q dp nt) (hn : a0.tmps.size = nt) (had : a0.defers = aF.defers) (haF : aF.tmps.size = nt)
    (hlex : ∀ x0, wpQuiet P ops (fun w' => ∃ x, w' = ext (ext W x0) x) (fun a => a = aF) (idx.map (opAt ops)) a0)
    (hp : ∀ (ρ : Operand → Value) (w : World), (execOp ρ (opAt ops p)).run P w = .ok (.value (.pointer (some ⟨w.heap.size, 0, none⟩))) (w.alloc (.cells z T)))
    (hsv : s ∈ (opAt ops q).looksAt ops) (hsw : s ≠ dp ∧ ∀ j, j < ops.size → (opAt ops j).dst = some s → j < q)
    (hdq : dp ∈ (opAt ops q).looksAt ops)
    (hq : ∀ (ρ : Operand → Value) (w1 : World) (x2 : Ext), ρ (.tmp dp) = .pointer (some ⟨w1.heap.size, 0, none⟩) → ρ (.tmp s) = aF.tmps.getD s undef →
      (execOp ρ (opAt ops q)).run P (ext (w1.alloc (.cells z T)) x2) = .ok .skip (ext (w1.alloc (.cells c T)) x2))
    (hQ : ∀ x1 x2, Q .normal (aF.put (some dp) (.pointer (some ⟨(ext W x1).heap.size, 0, none⟩))) (ext ((ext W x1).alloc (.cells c T)) x2)) :
    ∀ (fuel : Nat) (S : Array Bool) (a : Act) (w : World) (b : Nat), S.size = ops.size → left ops.size S ≤ fuel → Closed ops S → ActIs ops p nt a0 aF S (.pointer (some ⟨b, 0, none⟩)) a → WPh W T z c p q S b w →
      wpAny P .any ops Q fuel S a w := by
  have hpn : p < ops.size := Nat.lt_trans B.pq B.qn
  -- at the end
  have fin : ∀ (S : Array Bool) (a : Act) (w : World) (b : Nat), S.size = ops.size → (∀ i, i < ops.size → S.getD i false = true) → ActIs ops p nt a0 aF S (.pointer (some ⟨b, 0, none⟩)) a → WPh W T z c p q S b w → Q .normal a w := by
    intro S a w b hs hall ha hw
    obtain ⟨x1, x2, hb, rfl⟩ := hw.full (hall q B.qn)
    have e : a = aF.put (some dp) (.pointer (some ⟨b, 0, none⟩)) := by
      refine act_ext (by rw [ha.defers, defers_put]) (by rw [ha.size, size_put, haF]) fun t => ?_
      rw [getD_put]
      by_cases ht : dp = t
      · subst ht
        rw [ha.hit p dp hpn (hall p hpn) B.pd, if_pos rfl, if_pos ⟨rfl, by rw [haF]; exact B.inb p dp hpn B.pd⟩]
      · rw [if_neg fun h => ht (Option.some.inj h.1)]
        by_cases hw : ∃ j, j < ops.size ∧ (opAt ops j).dst = some t
        · obtain ⟨j, hj, hd⟩ := hw
          have hjp : j ≠ p := fun e => by subst e; rw [B.pd] at hd; exact ht (Option.some.inj hd)
          rw [ha.hit j t hj (hall j hj) hd, if_neg hjp]
        · have hw' : ∀ j, j < ops.size → (opAt ops j).dst ≠ some t := fun j hj hd => hw ⟨j, hj, hd⟩
          rw [ha.miss t fun j hj _ => hw' j hj]
          exact (quiet_keep _ _ (hlex ⟨#[], W.drawn⟩)).2.2 t fun j hj => hw' j ((B.mem j).1 hj).1
    rw [e, hb]
    exact hQ x1 x2
  -- an operation comes up as long as one is left
  have ready_of : ∀ (S : Array Bool), S.size = ops.size → Region.ready .any ops S = [] → ∀ k, k ≤ ops.size → ∀ i, i < k → S.getD i false = true := by
    intro S hs hr k
    induction k with
    | zero => intro _ i hi; omega
    | succ k ih =>
      intro hk i hi
      by_cases hik : i < k
      · exact ih (by omega) i hik
      · obtain rfl : i = k := by omega
        cases hu : S.getD i false with
        | true => rfl
        | false =>
          exfalso
          have : i ∈ Region.ready .any ops S := mem_ready.2 ⟨getD_in (by omega) hu, opAt ops i, opAt_some (by omega), fun e he hb => ih (by omega) e.on (B.back i (by omega) e he hb)⟩
          rw [hr] at this; cases this
  intro fuel
  induction fuel with
  | zero =>
    intro S a w b hs hl hc ha hw
    have hall := left_zero (Nat.le_zero.1 hl)
    refine ⟨?_, fin S a w b hs hall ha hw⟩
    refine List.eq_nil_iff_forall_not_mem.2 fun i hi => ?_
    obtain ⟨hu, oi, hoi, _⟩ := mem_ready.1 hi
    have hin : i < ops.size := (Array.getElem?_eq_some_iff.1 hoi).1
    have := getD_or (by omega) hu
    rw [hall i hin] at this; cases this
  | succ fuel ih =>
    intro S a w b hs hl hc ha hw
    refine ⟨fun hr => fin S a w b hs (ready_of S hs hr ops.size (Nat.le_refl _)) ha hw, fun i hi => ?_⟩
    obtain ⟨hu', oi, hoi, hall⟩ := mem_ready.1 hi
    have hin : i < ops.size := (Array.getElem?_eq_some_iff.1 hoi).1
    have hu : S.getD i false = false := getD_or (by omega) hu'
    rw [opAt_some hin] at hoi
    obtain rfl := Option.some.inj hoi
    have hlt := left_set hin (by omega) hu
    have hcl := closed_set hs hc hi
    have hs' : (S.setIfInBounds i true).size = ops.size := by simp [hs]
    by_cases hip : i = p
    · -- the box is laid
      subst hip
      have hql : S.getD q false = false := by
        cases hq' : S.getD q false with
        | false => rfl
        | true =>
          obtain ⟨e, he, hb, ho⟩ := waits_edge B.wait B.qn
          have := hc q B.qn hq' e he hb
          rw [ho, hu] at this; cases this
      obtain ⟨x0, rfl⟩ := hw.none hu
      unfold wpOp
      simp only [opAt_some hin, Region.wanted, B.pg, if_true]
      refine .inl ?_
      unfold Oper.wp
      rw [hp, Oper.upon_value]
      refine ih _ _ _ (ext W x0).heap.size hs' (by omega) hcl (ha.put B hs (ptr' := .pointer (some ⟨(ext W x0).heap.size, 0, none⟩)) hin hu (fun d hd => by rw [if_pos rfl]) (fun h => by rw [hu] at h; cases h)) ?_
      refine ⟨fun h => ?_, fun _ _ => ⟨x0, _, rfl, self_ext _⟩, fun h => ?_⟩
      · rw [set_same (by omega)] at h; cases h
      · rw [getD_set_ne false (by have := B.pq; omega), hql] at h; cases h
    · by_cases hiq : i = q
      · -- the store
        subst hiq
        have hpl : S.getD p false = true := by
          obtain ⟨e, he, hb, ho⟩ := waits_edge B.wait B.qn
          have := hall e he hb
          rwa [ho] at this
        obtain ⟨x1, x2, hb, rfl⟩ := hw.laid hpl hu
        have hes : a.tmps.getD s undef = aF.tmps.getD s undef := by
          by_cases hws : ∃ j, j < ops.size ∧ (opAt ops j).dst = some s
          · obtain ⟨j, hj, hd⟩ := hws
            rcases B.look i j s hin hj hd hsv with ⟨_, hwt⟩ | ⟨h1, _⟩
            · obtain ⟨e, he, hb', ho⟩ := waits_edge hwt hin
              have hlj := hall e he hb'
              rw [ho] at hlj
              rw [ha.hit j s hj hlj hd, if_neg fun e => by subst e; rw [B.pd] at hd; exact hsw.1 (Option.some.inj hd).symm]
            · have := hsw.2 j hj hd; omega
          · have hw' : ∀ j, j < ops.size → (opAt ops j).dst ≠ some s := fun j hj hd => hws ⟨j, hj, hd⟩
            rw [ha.miss s fun j hj _ => hw' j hj]
            exact (quiet_keep _ _ (hlex ⟨#[], W.drawn⟩)).2.2 s fun j hj => hw' j ((B.mem j).1 hj).1
        have hed : a.eval (.tmp dp) = .pointer (some ⟨(ext W x1).heap.size, 0, none⟩) := by
          show a.tmps.getD dp undef = _
          rw [ha.hit p dp hpn hpl B.pd, if_pos rfl, hb]
        unfold wpOp
        simp only [opAt_some hin, Region.wanted, B.qg, if_true]
        refine .inl ?_
        unfold Oper.wp
        rw [hq a.eval _ _ hed hes, Oper.upon_skip]
        refine ih _ _ _ b hs' (by omega) hcl (ha.put B hs hin hu (fun d hd => by rw [B.qd] at hd; cases hd) (fun _ => rfl)) ?_
        have hpq : S.getD p false = (S.setIfInBounds i true).getD p false := (getD_set_ne false (by omega)).symm
        refine ⟨fun h => ?_, fun _ h => ?_, fun _ => ⟨x1, x2, hb, rfl⟩⟩
        · rw [← hpq, hpl] at h; cases h
        · rw [set_same (by omega)] at h; cases h
      · -- any other
        have hmem : i ∈ idx := (B.mem i).2 ⟨hin, hip, hiq⟩
        obtain ⟨pre, post, hidx⟩ := List.append_of_mem hmem
        have hex : Ex W w := by
          cases h1 : S.getD p false with
          | false => exact hw.none h1
          | true =>
            cases h2 : S.getD q false with
            | false => obtain ⟨x1, x2, _, rfl⟩ := hw.laid h1 h2; exact ex_of ⟨x1, rfl⟩ _ _
            | true => obtain ⟨x1, x2, _, rfl⟩ := hw.full h2; exact ex_of ⟨x1, rfl⟩ _ _
        obtain ⟨x0, rfl⟩ := hex
        have hasc := B.asc
        rw [hidx] at hasc
        have hpost := fun j hj => (List.pairwise_cons.1 (List.pairwise_append.1 hasc).2.1).1 j hj
        have hl0 := hlex x0
        rw [hidx] at hl0
        obtain ⟨a', v, hy, hsz, hv, hm, hh⟩ := quiet_one hl0 (fun j hj d hd hd' => by
          have hjn : j < ops.size := ((B.mem j).1 (by rw [hidx]; simp [hj])).1
          have := B.dist i j d hin hjn hd hd'
          have := hpost j hj; omega)
        have hsees := sees B ha hc hin hiq hu hall hidx hm hh
        obtain ⟨he, hwn⟩ := same_op (ops := ops) (fun cs b => Region.noSelect_spec B.sel i _ cs b (opAt_some hin)) (by rw [ha.size, hsz, hn]) hsees
        have hy' := hy.of_same he hwn
        refine wpOp_of_qOp (C := fun w' => ∃ x, w' = ext (ext W x0) x) ⟨_, self_ext _⟩ (K := fun a' => a' = a.put (opAt ops i).dst v) (fun a'' w' hw' hk => ?_) (hy'.qOp (opAt_some hin) rfl)
        subst hk
        obtain ⟨x, rfl⟩ := hw'
        refine ih _ _ _ b hs' (by omega) hcl (ha.put B hs hin hu (fun d hd => by rw [if_neg hip]; exact (hv d hd (by rw [hn]; exact B.inb i d hin hd)).symm) (fun _ => rfl)) ?_
        have hpp : (S.setIfInBounds i true).getD p false = S.getD p false := getD_set_ne false hip
        have hqq : (S.setIfInBounds i true).getD q false = S.getD q false := getD_set_ne false hiq
        refine ⟨fun h => ⟨_, ext_ext _ _⟩, fun h1 h2 => ?_, fun h => ?_⟩
        · rw [hpp] at h1; rw [hqq] at h2
          obtain ⟨x1, x2, hb, hw⟩ := hw.laid h1 h2
          exact ⟨x1, x2.app x, hb, by rw [hw, ext_ext]⟩
        · rw [hqq] at h
          obtain ⟨x1, x2, hb, hw⟩ := hw.full h
          exact ⟨x1, x2.app x, hb, by rw [hw, ext_ext]⟩

/-- **A region that draws its order, lays one box ('p') and stores one value into it ('q').** -/
theorem region_box {id : Nat} {Q : Exit → Act → World → Prop} {l : List Oper} (idx : List Nat) (p q dp nt s : Nat) (T : TypeId) (z c : Array Value) (hm : P.follows .mixedOrders = true)
    (hB : boxB l.toArray idx p q dp nt = true) (hn : a0.tmps.size = nt) (hsv : (opAt l.toArray q).looksAt l.toArray = [dp, s])
    (hsw : (s != dp && (List.range l.toArray.size).all fun j => (opAt l.toArray j).dst != some s || decide (j < q)) = true)
    (hp : ∀ (ρ : Operand → Value) (w : World), (execOp ρ (opAt l.toArray p)).run P w = .ok (.value (.pointer (some ⟨w.heap.size, 0, none⟩))) (w.alloc (.cells z T)))
    (hlex : ∀ x0, wpQuiet P l.toArray (fun w' => ∃ x, w' = ext (ext W x0) x) (fun a => a = aF) (idx.map (opAt l.toArray)) a0)
    (hq : ∀ (ρ : Operand → Value) (w1 : World) (x2 : Ext), ρ (.tmp dp) = .pointer (some ⟨w1.heap.size, 0, none⟩) → ρ (.tmp s) = aF.tmps.getD s undef →
      (execOp ρ (opAt l.toArray q)).run P (ext (w1.alloc (.cells z T)) x2) = .ok .skip (ext (w1.alloc (.cells c T)) x2))
    (hQ : ∀ x1 x2 n, n = (ext W x1).heap.size → Q .normal (aF.put (some dp) (.pointer (some ⟨n, 0, none⟩))) (ext ((ext W x1).alloc (.cells c T)) x2)) :
    (Code.region id l.toArray true).wp P Q a0 W := by
  have B := box_of hB
  obtain ⟨hd, hs, _⟩ := quiet_keep _ _ (hlex ⟨#[], W.drawn⟩)
  simp only [Bool.and_eq_true, bne_iff_ne, List.all_eq_true, List.mem_range, Bool.or_eq_true, decide_eq_true_eq] at hsw
  refine wp_region_any hm ?_
  refine box_main (md := ()) (s := s) B hn hd (by rw [← hs, hn]) hlex hp (by rw [hsv]; simp) ⟨hsw.1, fun j hj h => ?_⟩ (by rw [hsv]; simp) hq (fun x1 x2 => hQ x1 x2 _ rfl) _ _ _ _ 0 (by simp) ?_ ?_ ?_ ?_
  · rcases hsw.2 j hj with h' | h'
    · exact absurd h h'
    · exact h'
  · unfold left
    exact Nat.le_trans (List.length_filter_le _ _) (by simp)
  · intro j _ h; rw [getD_replicate_false] at h; cases h
  · exact ⟨hd, hn, fun j t _ h => (by rw [getD_replicate_false] at h; cases h), fun t _ => rfl⟩
  · exact ⟨fun _ => ⟨_, ext_drew W⟩, fun h => (by rw [getD_replicate_false] at h; cases h), fun h => (by rw [getD_replicate_false] at h; cases h)⟩
end
end Go.Proofs.Ytkmnnnhnajnefaa
