/- Plain words on deals: when is a deal valid? -/
import Derived.Test.YtkelmfdbcicojaaLinesP
import Derived.Test.YtkelmfdbcicojaaPile2
namespace Go.Proofs.Ytkelmfdbcicojaa
set_option linter.unusedSimpArgs false
set_option linter.unusedVariables false

/-- Does the card at place 'i' lie there well? -/
def laidAt (P cs : List C4) (i : Nat) : Bool := match cs[i]? with
  | some c => hasB P c && !hasB (cs.take i) c
  | none => true
def laidB (P cs : List C4) : Bool := (List.range cs.length).all (laidAt P cs)
theorem laidAt_get {P cs : List C4} {i : Nat} {c : C4} (h : cs[i]? = some c) : laidAt P cs i = (hasB P c && !hasB (cs.take i) c) := by simp [laidAt, h]
theorem laidB_all {P cs : List C4} (h : ∀ i, i < cs.length → laidAt P cs i = true) : laidB P cs = true := by
  simp only [laidB, List.all_eq_true, List.mem_range]; exact h
theorem laidB_no {P cs : List C4} {i : Nat} (hi : i < cs.length) (h : laidAt P cs i = false) : laidB P cs = false := by
  cases hb : laidB P cs
  · rfl
  · simp only [laidB, List.all_eq_true, List.mem_range] at hb
    rw [hb i hi] at h; cases h
theorem laidB_facts {P cs : List C4} (h : laidB P cs = true) : cs.Nodup ∧ ∀ c ∈ cs, c ∈ P := by
  simp only [laidB, List.all_eq_true, List.mem_range] at h
  have h' : ∀ i (hi : i < cs.length), cs[i] ∈ P ∧ cs[i] ∉ cs.take i := fun i hi => by
    have := h i hi
    rw [laidAt_get (List.getElem?_eq_getElem hi)] at this
    simpa [hasB] using this
  constructor
  · rw [List.nodup_iff_pairwise_ne, List.pairwise_iff_getElem]
    intro i j hi hj hij e
    apply (h' j hj).2
    rw [List.mem_iff_getElem]
    exact ⟨i, by simp; omega, by rw [List.getElem_take, e]⟩
  · intro c hc
    obtain ⟨i, hi, rfl⟩ := List.getElem_of_mem hc
    exact (h' i hi).1
theorem nodup_len : ∀ (cs P : List C4), cs.Nodup → (∀ c ∈ cs, c ∈ P) → cs.length ≤ P.length := by
  intro cs
  induction cs with
  | nil => intro P _ _; simp
  | cons c cs ih =>
    intro P hn h
    have hn' := List.nodup_cons.1 hn
    have hc : c ∈ P := h c (by simp)
    have := ih (P.erase c) hn'.2 (fun z hz => (List.mem_erase_of_ne (fun e => hn'.1 (by rw [← e]; exact hz))).2 (h z (by simp [hz])))
    rw [List.length_erase_of_mem hc] at this
    have : 0 < P.length := List.length_pos_of_mem hc
    simp only [List.length_cons]
    omega
/-- Is it a deal? -/
def dealB (s n : Int) (cs : List C4) : Bool := isSeed s && (inR n 0 81 && laidB ((pileR s).take n.toNat) cs)
theorem laid_len {s n : Int} {cs : List C4} (h0 : 0 ≤ n) (h : laidB ((pileR s).take n.toNat) cs = true) : (cs.length : Int) ≤ n := by
  have hf := laidB_facts h
  have := nodup_len cs _ hf.1 hf.2
  rw [List.length_take] at this
  omega
structure DealOk (s n : Int) (cs : List C4) : Prop where
  s0 : 0 ≤ s
  s1 : s ≤ 65535
  n0 : 0 ≤ n
  n1 : n ≤ 81
  nodup : cs.Nodup
  mem : ∀ c ∈ cs, c ∈ (pileR s).take n.toNat
  len : (cs.length : Int) ≤ n
  ok : ∀ c ∈ cs, Ok c
theorem dealB_ok {s n : Int} {cs : List C4} (h : dealB s n cs = true) : DealOk s n cs := by
  simp only [dealB, Bool.and_eq_true] at h
  obtain ⟨h1, h2, h3⟩ := h
  have hs := (inR_iff _ _ _).1 h1
  have hn := (inR_iff _ _ _).1 h2
  have hf := laidB_facts h3
  exact ⟨hs.1, hs.2, hn.1, hn.2, hf.1, hf.2, laid_len hn.1 h3, fun c hc => pileR_ok s c (List.mem_of_mem_take (hf.2 c hc))⟩
end Go.Proofs.Ytkelmfdbcicojaa
