/- Plain words on how often a map is taken until each card is itself again. -/
import Derived.Test.YtkmnnnhnajnefaaOrbP
namespace Go.Proofs.Ytkmnnnhnajnefaa
set_option linter.unusedSimpArgs false
set_option linter.unusedVariables false

/-- Is each card itself again after so many times? -/
def allF (f : Nat → Int) (k : Nat) : Bool := (List.range 81).all fun n => ceq (itr (img f) k (at_ (n : Int))) (at_ (n : Int))
theorem at_all {c : C4} (h : Ok c) : ∃ n, n < 81 ∧ at_ ((n : Nat) : Int) = c := by
  obtain ⟨h1, h2, h3, h4, h5, h6, h7, h8⟩ := id h
  refine ⟨(num c).toNat, ?_, ?_⟩
  · unfold num; omega
  · rw [show (((num c).toNat : Nat) : Int) = num c by unfold num; omega]
    exact at_num h
theorem allF_iff {f : Nat → Int} {k : Nat} : allF f k = true ↔ ∀ c, Ok c → itr (img f) k c = c := by
  unfold allF
  rw [List.all_eq_true]
  constructor
  · intro h c hc
    obtain ⟨n, hn, rfl⟩ := at_all hc
    exact (ceq_iff _ _).1 (h n (List.mem_range.2 hn))
  · intro h n hn
    exact (ceq_iff _ _).2 (h _ (ok_at (by omega) (by have := List.mem_range.1 hn; omega)))
/-- How often a map is taken until each card is itself again. -/
def ordM (f : Nat → Int) : Nat := ordN (allF f) 17 1
theorem ordM_ok {f : Nat → Int} (hm : mapB f = true) : (∀ c, Ok c → itr (img f) (ordM f) c = c) ∧ 1 ≤ ordM f ∧ ordM f ≤ 18 ∧ ∀ j, 1 ≤ j → (∀ c, Ok c → itr (img f) j c = c) → ordM f ≤ j := by
  obtain ⟨n, h1, h2, h3⟩ := back_all hm
  obtain ⟨a, b, d, e⟩ := ordN_ok (allF f) 17 1 ⟨n, h1, by omega, allF_iff.2 h3⟩
  exact ⟨allF_iff.1 a, b, by unfold ordM; omega, fun j hj hpj => e j hj (allF_iff.2 hpj)⟩
theorem itr_mult {f : Nat → Int} {c : C4} {n : Nat} (h : itr (img f) n c = c) : ∀ q, itr (img f) (n * q) c = c
  | 0 => rfl
  | q + 1 => by rw [Nat.mul_succ, itr_add, h, itr_mult h q]
theorem orb_dvd {f : Nat → Int} {c : C4} (hm : mapB f = true) (hc : Ok c) {n : Nat} (h : itr (img f) n c = c) : orbL f c ∣ n := by
  obtain ⟨h1, h2, h3, h4⟩ := orbL_ok hm hc
  have e : itr (img f) (n % orbL f c) c = c := by
    have := h
    rw [← Nat.mod_add_div n (orbL f c), itr_add, itr_mult h1] at this
    exact this
  by_cases h0 : n % orbL f c = 0
  · exact Nat.dvd_of_mod_eq_zero h0
  · have := h4 _ (by omega) e
    have := Nat.mod_lt n (show 0 < orbL f c by omega)
    omega
/-- What the code reckons, card by card. -/
def ordI (f : Nat → Int) : Nat → Nat
  | 0 => 1
  | n + 1 => ordI f n / Nat.gcd (ordI f n) (orbL f (at_ (n : Int))) * orbL f (at_ (n : Int))
theorem ordI_lcm (f : Nat → Int) (n : Nat) : ordI f (n + 1) = Nat.lcm (ordI f n) (orbL f (at_ (n : Int))) := by
  rw [ordI, Nat.lcm]
  exact Nat.div_mul_right_comm (Nat.gcd_dvd_left _ _) _
theorem ordI_ok {f : Nat → Int} (hm : mapB f = true) : ∀ n, n ≤ 81 → 1 ≤ ordI f n ∧ ordI f n ∣ ordM f ∧ ordI f n ≤ 18 ∧ ∀ j, j < n → orbL f (at_ (j : Int)) ∣ ordI f n := by
  obtain ⟨m1, m2, m3, m4⟩ := ordM_ok hm
  intro n
  induction n with
  | zero => intro _; exact ⟨Nat.le_refl _, Nat.one_dvd _, by simp [ordI], fun j hj => by omega⟩
  | succ n ih =>
    intro hn
    obtain ⟨i1, i2, i3, i4⟩ := ih (by omega)
    have hok := ok_at (show (0 : Int) ≤ (n : Int) by omega) (show (n : Int) ≤ 80 by omega)
    have hd : ordI f (n + 1) ∣ ordM f := by
      rw [ordI_lcm]
      exact Nat.lcm_dvd i2 (orb_dvd hm hok (m1 _ hok))
    have hp : 1 ≤ ordI f (n + 1) := Nat.pos_of_dvd_of_pos hd (by omega)
    refine ⟨hp, hd, Nat.le_trans (Nat.le_of_dvd (by omega) hd) m3, fun j hj => ?_⟩
    rw [ordI_lcm]
    by_cases e : j = n
    · subst e; exact Nat.dvd_lcm_right _ _
    · exact Nat.dvd_trans (i4 j (by omega)) (Nat.dvd_lcm_left _ _)
theorem ordI_eq {f : Nat → Int} (hm : mapB f = true) : ordI f 81 = ordM f := by
  obtain ⟨m1, m2, m3, m4⟩ := ordM_ok hm
  obtain ⟨i1, i2, i3, i4⟩ := ordI_ok hm 81 (Nat.le_refl _)
  refine Nat.le_antisymm (Nat.le_of_dvd (by omega) i2) (m4 _ i1 fun c hc => ?_)
  obtain ⟨n, hn, rfl⟩ := at_all hc
  obtain ⟨q, hq⟩ := i4 n hn
  rw [hq]
  exact itr_mult (orbL_ok hm hc).1 q

/-- The map that leads each card to itself. -/
def sameF : Nat → Int := fun j => if j < 4 then (j : Int) else (((j - 4) % 3 : Nat) : Int)
theorem same_img {g : Nat → Int} (hg : (∀ j, j < 16 → g j = (natM g j : Int)) ∧ (∀ j, j < 4 → natM g j < 4) ∧ (∀ j, 4 ≤ j → j < 16 → natM g j < 3)) : (∀ j, j < 16 → g j = sameF j) ↔ ∀ c, Ok c → img g c = c := by
  constructor
  · intro h c hc
    have e0 : natM g 0 = 0 := by unfold natM; rw [h 0 (by omega)]; rfl
    have e1 : natM g 1 = 1 := by unfold natM; rw [h 1 (by omega)]; rfl
    have e2 : natM g 2 = 2 := by unfold natM; rw [h 2 (by omega)]; rfl
    have e3 : natM g 3 = 3 := by unfold natM; rw [h 3 (by omega)]; rfl
    obtain ⟨h1, h2, h3, h4, h5, h6, h7, h8⟩ := hc
    have key : ∀ (b : Nat) (x : Int), 4 ≤ b → b + 3 ≤ 16 → (b - 4) % 3 = 0 → 0 ≤ x → x ≤ 2 → g (b + x.toNat) = x := fun b x k1 k2 k3 k4 k5 => by
      rw [h _ (by omega), sameF, if_neg (by omega)]
      omega
    unfold img
    rw [e0, e1, e2, e3]
    cases c
    simp only [trt, C4.mk.injEq] at *
    exact ⟨key 4 _ (by omega) (by omega) (by omega) h1 h2, key 7 _ (by omega) (by omega) (by omega) h3 h4, key 10 _ (by omega) (by omega) (by omega) h5 h6, key 13 _ (by omega) (by omega) (by omega) h7 h8⟩
  · intro h
    have p0 : ∀ x y z t : Int, 0 ≤ x → x ≤ 2 → 0 ≤ y → y ≤ 2 → 0 ≤ z → z ≤ 2 → 0 ≤ t → t ≤ 2 → img g ⟨x, y, z, t⟩ = ⟨x, y, z, t⟩ := fun x y z t a1 a2 a3 a4 a5 a6 a7 a8 => h _ ⟨a1, a2, a3, a4, a5, a6, a7, a8⟩
    have b0 := hg.2.1 0 (by omega)
    have b1 := hg.2.1 1 (by omega)
    have b2 := hg.2.1 2 (by omega)
    have b3 := hg.2.1 3 (by omega)
    have z0 := p0 0 0 0 0 (by omega) (by omega) (by omega) (by omega) (by omega) (by omega) (by omega) (by omega)
    have za := p0 1 0 0 0 (by omega) (by omega) (by omega) (by omega) (by omega) (by omega) (by omega) (by omega)
    have zb := p0 0 1 0 0 (by omega) (by omega) (by omega) (by omega) (by omega) (by omega) (by omega) (by omega)
    have zc := p0 0 0 1 0 (by omega) (by omega) (by omega) (by omega) (by omega) (by omega) (by omega) (by omega)
    have zd := p0 0 0 0 1 (by omega) (by omega) (by omega) (by omega) (by omega) (by omega) (by omega) (by omega)
    have z1 := p0 1 1 1 1 (by omega) (by omega) (by omega) (by omega) (by omega) (by omega) (by omega) (by omega)
    have z2 := p0 2 2 2 2 (by omega) (by omega) (by omega) (by omega) (by omega) (by omega) (by omega) (by omega)
    have four : ∀ t, t < 4 → t = 0 ∨ t = 1 ∨ t = 2 ∨ t = 3 := fun t ht => by omega
    simp only [img, C4.mk.injEq] at z0 za zb zc zd z1 z2
    have tr : ∀ (x : Int) t, trt ⟨x, x, x, x⟩ t = x := fun x t => by unfold trt; split <;> rfl
    simp only [tr] at z0 z1 z2
    simp at z0 z1 z2
    have k0 : natM g 0 = 0 := by
      rcases four _ b0 with e | e | e | e
      · exact e
      all_goals
        exfalso
        have := za.1
        rw [e] at this
        simp [trt] at this
        omega
    have k1 : natM g 1 = 1 := by
      rcases four _ b1 with e | e | e | e
      case inr.inl => exact e
      all_goals
        exfalso
        have := zb.2.1
        rw [e] at this
        simp [trt] at this
        omega
    have k2 : natM g 2 = 2 := by
      rcases four _ b2 with e | e | e | e
      case inr.inr.inl => exact e
      all_goals
        exfalso
        have := zc.2.2.1
        rw [e] at this
        simp [trt] at this
        omega
    have k3 : natM g 3 = 3 := by
      rcases four _ b3 with e | e | e | e
      case inr.inr.inr => exact e
      all_goals
        exfalso
        have := zd.2.2.2
        rw [e] at this
        simp [trt] at this
        omega
    intro j hj
    have g0 := hg.1 0 (by omega)
    have g1 := hg.1 1 (by omega)
    have g2 := hg.1 2 (by omega)
    have g3 := hg.1 3 (by omega)
    rw [k0] at g0; rw [k1] at g1; rw [k2] at g2; rw [k3] at g3
    rcases nat16 hj with rfl | rfl | rfl | rfl | rfl | rfl | rfl | rfl | rfl | rfl | rfl | rfl | rfl | rfl | rfl | rfl
    · exact g0
    · exact g1
    · exact g2
    · exact g3
    · exact z0.1
    · exact z1.1
    · exact z2.1
    · exact z0.2.1
    · exact z1.2.1
    · exact z2.2.1
    · exact z0.2.2.1
    · exact z1.2.2.1
    · exact z2.2.2.1
    · exact z0.2.2.2
    · exact z1.2.2.2
    · exact z2.2.2.2
end Go.Proofs.Ytkmnnnhnajnefaa
