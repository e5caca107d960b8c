/- Plain words on the orbits of cards under a map. -/
import Derived.Test.YtkmnnnhnajnefaaMCard
import Derived.Test.YtkmnnnhnajnefaaOrbF
namespace Go.Proofs.Ytkmnnnhnajnefaa
set_option linter.unusedSimpArgs false
set_option linter.unusedVariables false

def toF (c : C4) : Fin 4 → Fin 3 := fun i => ⟨(trt c i.val).toNat % 3, Nat.mod_lt _ (by omega)⟩
def mT (f : Nat → Int) : Fin 4 → Fin 4 := fun i => ⟨natM f i.val % 4, Nat.mod_lt _ (by omega)⟩
def mV (f : Nat → Int) : Fin 4 → Fin 3 → Fin 3 := fun i v => ⟨natM f (4 + i.val * 3 + v.val) % 3, Nat.mod_lt _ (by omega)⟩
theorem fin4 (i : Fin 4) : i = 0 ∨ i = 1 ∨ i = 2 ∨ i = 3 := by revert i; decide
theorem fin3 (i : Fin 3) : i = 0 ∨ i = 1 ∨ i = 2 := by revert i; decide
theorem toF_img {f : Nat → Int} {c : C4} (hm : mapB f = true) (hc : Ok c) : toF (img f c) = imF (mT f) (mV f) (toF c) := by
  have k := (map_nat hm).2.1
  have b : ∀ t, (trt c t).toNat % 3 = (trt c t).toNat := fun t => by have := trt_ok hc t; omega
  funext i
  apply Fin.ext
  rcases fin4 i with rfl | rfl | rfl | rfl
  · show (f (4 + (trt c (natM f 0)).toNat)).toNat % 3 = natM f (4 + 0 * 3 + (trt c (natM f 0 % 4)).toNat % 3) % 3
    rw [Nat.mod_eq_of_lt (k 0 (by omega)), b]; rfl
  · show (f (7 + (trt c (natM f 1)).toNat)).toNat % 3 = natM f (4 + 1 * 3 + (trt c (natM f 1 % 4)).toNat % 3) % 3
    rw [Nat.mod_eq_of_lt (k 1 (by omega)), b]; rfl
  · show (f (10 + (trt c (natM f 2)).toNat)).toNat % 3 = natM f (4 + 2 * 3 + (trt c (natM f 2 % 4)).toNat % 3) % 3
    rw [Nat.mod_eq_of_lt (k 2 (by omega)), b]; rfl
  · show (f (13 + (trt c (natM f 3)).toNat)).toNat % 3 = natM f (4 + 3 * 3 + (trt c (natM f 3 % 4)).toNat % 3) % 3
    rw [Nat.mod_eq_of_lt (k 3 (by omega)), b]; rfl
theorem toF_inj {a b : C4} (ha : Ok a) (hb : Ok b) (h : toF a = toF b) : a = b := by
  have h0 : a.a.toNat % 3 = b.a.toNat % 3 := congrArg Fin.val (congrFun h 0)
  have h1 : a.b.toNat % 3 = b.b.toNat % 3 := congrArg Fin.val (congrFun h 1)
  have h2 : a.c.toNat % 3 = b.c.toNat % 3 := congrArg Fin.val (congrFun h 2)
  have h3 : a.d.toNat % 3 = b.d.toNat % 3 := congrArg Fin.val (congrFun h 3)
  obtain ⟨a1, a2, a3, a4, a5, a6, a7, a8⟩ := ha
  obtain ⟨b1, b2, b3, b4, b5, b6, b7, b8⟩ := hb
  cases a; cases b
  simp only [C4.mk.injEq] at *
  refine ⟨?_, ?_, ?_, ?_⟩ <;> omega
theorem perm_ne3 {x y z : Int} (h : permB [x, y, z] = true) : x ≠ y ∧ x ≠ z ∧ y ≠ z := by
  have := ((permB_iff _).1 h).2
  simp at this
  exact ⟨this.1.1, this.1.2, this.2⟩
theorem perm_ne4 {x y z t : Int} (h : permB [x, y, z, t] = true) : x ≠ y ∧ x ≠ z ∧ x ≠ t ∧ y ≠ z ∧ y ≠ t ∧ z ≠ t := by
  have := ((permB_iff _).1 h).2
  simp at this
  obtain ⟨⟨h1, h2, h3⟩, ⟨h4, h5⟩, h6⟩ := this
  exact ⟨h1, h2, h3, h4, h5, h6⟩
theorem mapB_parts {f : Nat → Int} (hm : mapB f = true) : permB [f 4, f 5, f 6] = true ∧ permB [f 7, f 8, f 9] = true ∧ permB [f 10, f 11, f 12] = true ∧ permB [f 13, f 14, f 15] = true ∧ permB [f 0, f 1, f 2, f 3] = true := by
  simpa [mapB, Bool.and_eq_true] using hm
theorem mT_inj {f : Nat → Int} (hm : mapB f = true) : Inj (mT f) := by
  have k := map_nat hm
  obtain ⟨h1, h2, h3, h4, h5, h6⟩ := perm_ne4 (mapB_parts hm).2.2.2.2
  rw [k.1 0 (by omega), k.1 1 (by omega)] at h1
  rw [k.1 0 (by omega), k.1 2 (by omega)] at h2
  rw [k.1 0 (by omega), k.1 3 (by omega)] at h3
  rw [k.1 1 (by omega), k.1 2 (by omega)] at h4
  rw [k.1 1 (by omega), k.1 3 (by omega)] at h5
  rw [k.1 2 (by omega), k.1 3 (by omega)] at h6
  intro i j e
  have e := congrArg Fin.val e
  have e : natM f i.val % 4 = natM f j.val % 4 := e
  rw [Nat.mod_eq_of_lt (k.2.1 _ i.isLt), Nat.mod_eq_of_lt (k.2.1 _ j.isLt)] at e
  rcases fin4 i with rfl | rfl | rfl | rfl <;> rcases fin4 j with rfl | rfl | rfl | rfl <;>
    first
    | rfl
    | (exfalso; first | exact h1 (congrArg _ e) | exact h1 (congrArg _ e).symm | exact h2 (congrArg _ e) | exact h2 (congrArg _ e).symm | exact h3 (congrArg _ e) | exact h3 (congrArg _ e).symm | exact h4 (congrArg _ e) | exact h4 (congrArg _ e).symm | exact h5 (congrArg _ e) | exact h5 (congrArg _ e).symm | exact h6 (congrArg _ e) | exact h6 (congrArg _ e).symm)
theorem mV_inj3 {f : Nat → Int} {b : Nat} (hb : 4 ≤ b) (hb2 : b + 3 ≤ 16) (k : (∀ j, j < 16 → f j = (natM f j : Int)) ∧ (∀ j, j < 4 → natM f j < 4) ∧ (∀ j, 4 ≤ j → j < 16 → natM f j < 3)) (h : permB [f b, f (b + 1), f (b + 2)] = true) : Inj (fun v : Fin 3 => (⟨natM f (b + v.val) % 3, Nat.mod_lt _ (by omega)⟩ : Fin 3)) := by
  obtain ⟨h1, h2, h3⟩ := perm_ne3 h
  rw [k.1 b (by omega), k.1 (b + 1) (by omega)] at h1
  rw [k.1 b (by omega), k.1 (b + 2) (by omega)] at h2
  rw [k.1 (b + 1) (by omega), k.1 (b + 2) (by omega)] at h3
  intro i j e
  have e := congrArg Fin.val e
  have e : natM f (b + i.val) % 3 = natM f (b + j.val) % 3 := e
  rw [Nat.mod_eq_of_lt (k.2.2 _ (by omega) (by have := i.isLt; omega)), Nat.mod_eq_of_lt (k.2.2 _ (by omega) (by have := j.isLt; omega))] at e
  rcases fin3 i with rfl | rfl | rfl <;> rcases fin3 j with rfl | rfl | rfl <;>
    first
    | rfl
    | (exfalso; first | exact h1 (congrArg _ e) | exact h1 (congrArg _ e).symm | exact h2 (congrArg _ e) | exact h2 (congrArg _ e).symm | exact h3 (congrArg _ e) | exact h3 (congrArg _ e).symm)
theorem mV_inj {f : Nat → Int} (hm : mapB f = true) : ∀ i, Inj (mV f i) := by
  have k := map_nat hm
  obtain ⟨h1, h2, h3, h4, _⟩ := mapB_parts hm
  intro i
  rcases fin4 i with rfl | rfl | rfl | rfl
  · exact mV_inj3 (b := 4) (by omega) (by omega) k h1
  · exact mV_inj3 (b := 7) (by omega) (by omega) k h2
  · exact mV_inj3 (b := 10) (by omega) (by omega) k h3
  · exact mV_inj3 (b := 13) (by omega) (by omega) k h4
theorem itr_ok {f : Nat → Int} {c : C4} (hm : mapB f = true) (hc : Ok c) : ∀ n, Ok (itr (img f) n c)
  | 0 => hc
  | n + 1 => ok_img hm (itr_ok hm hc n)
theorem itr_toF {f : Nat → Int} {c : C4} (hm : mapB f = true) (hc : Ok c) : ∀ n, toF (itr (img f) n c) = itr (imF (mT f) (mV f)) n (toF c)
  | 0 => rfl
  | n + 1 => by
    show toF (img f (itr (img f) n c)) = imF _ _ (itr _ n (toF c))
    rw [toF_img hm (itr_ok hm hc n), itr_toF hm hc n]
theorem back_all {f : Nat → Int} (hm : mapB f = true) : ∃ n, 1 ≤ n ∧ n ≤ 18 ∧ ∀ c, Ok c → itr (img f) n c = c := by
  obtain ⟨n, h1, h2, h3⟩ := back18 (mT_inj hm) (mV_inj hm)
  exact ⟨n, h1, h2, fun c hc => toF_inj (itr_ok hm hc n) hc (by rw [itr_toF hm hc, h3])⟩

/-- How many cards are in the orbit of a card. -/
def orbL (f : Nat → Int) (c : C4) : Nat := ordN (fun k => ceq (itr (img f) k c) c) 17 1
theorem orbL_ok {f : Nat → Int} {c : C4} (hm : mapB f = true) (hc : Ok c) : itr (img f) (orbL f c) c = c ∧ 1 ≤ orbL f c ∧ orbL f c ≤ 18 ∧ ∀ j, 1 ≤ j → itr (img f) j c = c → orbL f c ≤ j := by
  obtain ⟨n, h1, h2, h3⟩ := back_all hm
  obtain ⟨a, b, d, e⟩ := ordN_ok (fun k => ceq (itr (img f) k c) c) 17 1 ⟨n, h1, by omega, by simp [h3 c hc, ceq_self]⟩
  exact ⟨(ceq_iff _ _).1 a, b, by unfold orbL; omega, fun j hj hpj => e j hj (by simp [hpj, ceq_self])⟩
/-- How many of the first cards are in orbits with each number of cards. -/
def cyc (f : Nat → Int) : Nat → Nat → Int
  | 0 => mzero
  | n + 1 => upd (cyc f n) (orbL f (at_ (n : Int))) (cyc f n (orbL f (at_ (n : Int))) + 1)
theorem cyc_bd (f : Nat → Int) : ∀ n j, 0 ≤ cyc f n j ∧ cyc f n j ≤ n := by
  intro n
  induction n with
  | zero => intro j; simp [cyc, mzero]
  | succ n ih =>
    intro j
    have h1 := ih j
    have h2 := ih (orbL f (at_ (n : Int)))
    unfold cyc upd
    split <;> omega
def cycR (f : Nat → Int) : Nat → Int := if mapB f then cyc f 81 else mzero
end Go.Proofs.Ytkmnnnhnajnefaa
