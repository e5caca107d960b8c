/- Plain words on a map taken behind another one. -/
import Derived.Test.YtkmnnnhnajnefaaOrdP
import Derived.Test.YtkmnnnhnajnefaaBehind
namespace Go.Proofs.Ytkmnnnhnajnefaa
set_option linter.unusedSimpArgs false
set_option linter.unusedVariables false

theorem beh_T (g h : Nat → Nat) (i : Nat) (hi : i < 4) : behF g h i = g (h i) := by
  have : i = 0 ∨ i = 1 ∨ i = 2 ∨ i = 3 := by omega
  rcases this with rfl | rfl | rfl | rfl <;> rfl
theorem beh_V (g h : Nat → Nat) (i v : Nat) (hi : i < 4) (hv : v < 3) : behF g h (4 + i * 3 + v) = h (4 + i * 3 + g (4 + h i * 3 + v)) := by
  have h1 : i = 0 ∨ i = 1 ∨ i = 2 ∨ i = 3 := by omega
  have h2 : v = 0 ∨ v = 1 ∨ v = 2 := by omega
  rcases h1 with rfl | rfl | rfl | rfl <;> rcases h2 with rfl | rfl | rfl <;> rfl
/-- Sixteen numbers that may be a map's. -/
structure MapN (g : Nat → Int) : Prop where
  nat : ∀ j, j < 16 → g j = (natM g j : Int)
  tr : ∀ j, j < 4 → natM g j < 4
  va : ∀ j, 4 ≤ j → j < 16 → natM g j < 3
theorem MapN.of {f : Nat → Int} (h : mapB f = true) : MapN f := ⟨(map_nat h).1, (map_nat h).2.1, (map_nat h).2.2⟩
theorem MapN.split {j : Nat} (h1 : 4 ≤ j) (h2 : j < 16) : ∃ i v, i < 4 ∧ v < 3 ∧ j = 4 + i * 3 + v := ⟨(j - 4) / 3, (j - 4) % 3, by omega, by omega, by omega⟩
theorem MapN.beh {a b : Nat → Int} (ha : MapN a) (hb : MapN b) : MapN (behF (natM a) (natM b)) := by
  have nt : ∀ i, i < 4 → natM (behF (natM a) (natM b)) i = natM a (natM b i) := fun i hi => by
    show (behF (natM a) (natM b) i).toNat = _
    rw [beh_T _ _ _ hi]; rfl
  have nv : ∀ i v, i < 4 → v < 3 → natM (behF (natM a) (natM b)) (4 + i * 3 + v) = natM b (4 + i * 3 + natM a (4 + natM b i * 3 + v)) := fun i v hi hv => by
    show (behF (natM a) (natM b) (4 + i * 3 + v)).toNat = _
    rw [beh_V _ _ _ _ hi hv]; rfl
  refine ⟨fun j hj => ?_, fun j hj => ?_, fun j h1 h2 => ?_⟩
  · by_cases h : j < 4
    · rw [nt j h, beh_T _ _ _ h]
    · obtain ⟨i, v, hi, hv, rfl⟩ := MapN.split (by omega) hj
      rw [nv i v hi hv, beh_V _ _ _ _ hi hv]
  · rw [nt j hj]; exact ha.tr _ (hb.tr _ hj)
  · obtain ⟨i, v, hi, hv, rfl⟩ := MapN.split h1 h2
    rw [nv i v hi hv]
    have := hb.tr i hi
    have := ha.va (4 + natM b i * 3 + v) (by omega) (by omega)
    exact hb.va _ (by omega) (by omega)
theorem trt_img (a : Nat → Int) (c : C4) (s : Nat) (hs : s < 4) : trt (img a c) s = a (4 + s * 3 + (trt c (natM a s)).toNat) := by
  have : s = 0 ∨ s = 1 ∨ s = 2 ∨ s = 3 := by omega
  rcases this with rfl | rfl | rfl | rfl <;> rfl
theorem img_beh {a b : Nat → Int} (ha : MapN a) (hb : MapN b) {c : C4} (hc : Ok c) : img (behF (natM a) (natM b)) c = img b (img a c) := by
  have key : ∀ i, i < 4 → behF (natM a) (natM b) (4 + i * 3 + (trt c (natM (behF (natM a) (natM b)) i)).toNat) = b (4 + i * 3 + (trt (img a c) (natM b i)).toNat) := fun i hi => by
    have hs := hb.tr i hi
    have hT : natM (behF (natM a) (natM b)) i = natM a (natM b i) := by
      show (behF (natM a) (natM b) i).toNat = _
      rw [beh_T _ _ _ hi]; rfl
    have hv := trt_ok hc (natM a (natM b i))
    rw [hT, beh_V _ _ _ _ hi (by omega), trt_img _ _ _ hs]
    have h1 := ha.va (4 + natM b i * 3 + (trt c (natM a (natM b i))).toNat) (by omega) (by omega)
    rw [hb.nat _ (by show 4 + i * 3 + natM a _ < 16; omega)]
    rfl
  have k0 := key 0 (by omega)
  have k1 := key 1 (by omega)
  have k2 := key 2 (by omega)
  have k3 := key 3 (by omega)
  show C4.mk _ _ _ _ = C4.mk _ _ _ _
  simp only [C4.mk.injEq]
  exact ⟨k0, k1, k2, k3⟩
/-- A map, taken once and so many times more. -/
def nowM (f : Nat → Int) : Nat → Nat → Int
  | 0 => f
  | k + 1 => behF (natM (nowM f k)) (natM f)
theorem nowM_ok {f : Nat → Int} (hf : MapN f) : ∀ k, MapN (nowM f k)
  | 0 => hf
  | k + 1 => (nowM_ok hf k).beh hf
theorem nowM_img {f : Nat → Int} (hf : MapN f) {c : C4} (hc : Ok c) : ∀ k, img (nowM f k) c = itr (img f) (k + 1) c
  | 0 => rfl
  | k + 1 => by
    show img (behF _ _) c = img f (itr (img f) (k + 1) c)
    rw [img_beh (nowM_ok hf k) hf hc, nowM_img hf hc k]
theorem nowM_same {f : Nat → Int} (hf : MapN f) (k : Nat) : (∀ j, j < 16 → nowM f k j = sameF j) ↔ ∀ c, Ok c → itr (img f) (k + 1) c = c := by
  have h := nowM_ok hf k
  rw [same_img ⟨h.nat, h.tr, h.va⟩]
  constructor
  · intro q c hc; rw [← nowM_img hf hc]; exact q c hc
  · intro q c hc; rw [nowM_img hf hc]; exact q c hc
def moR (f : Nat → Int) : Int := if mapB f then (ordM f : Int) else 0
end Go.Proofs.Ytkmnnnhnajnefaa
