/- Plain words on the search for a map; all orders of numbers, in the reference and in the program. -/
import Derived.Test.YtkmnnnhnajnefaaOrbP
import Derived.Test.YtkmnnnhnajnefaaSortP
import Derived.Test.YtkmnnnhnajnefaaHandP
import Derived.Test.YtkmnnnhnajnefaaGreedy
import Derived.Test.YtkmnnnhnajnefaaCount
import Derived.Test.YtkmnnnhnajnefaaPerm
import Derived.ArgAppend
namespace Go.Proofs.Ytkmnnnhnajnefaa
set_option linter.unusedSimpArgs false
set_option linter.unusedVariables false
set_option maxRecDepth 100000

theorem toF_img2 {f : Nat → Int} {a b : C4} (hm : mapB f = true) (ha : Ok a) (hb : Ok b) (h : img f a = img f b) : a = b := by
  obtain ⟨n, h1, _, h3⟩ := back_all hm
  obtain ⟨k, rfl⟩ : ∃ k, n = k + 1 := ⟨n - 1, by omega⟩
  have e : ∀ c, itr (img f) (k + 1) c = itr (img f) k (img f c) := fun c => by rw [itr_add]; rfl
  rw [← h3 a ha, ← h3 b hb, e, e, h]
/-- Lists without a card twice: one in another one. -/
theorem perm_rest {α : Type} [DecidableEq α] : ∀ (l h : List α), l.Nodup → (∀ x ∈ l, x ∈ h) → ∃ r, h.Perm (l ++ r)
  | [], h, _, _ => ⟨h, List.Perm.refl _⟩
  | a :: l, h, hn, hs => by
    obtain ⟨h1, h2⟩ := List.nodup_cons.1 hn
    have ha := hs a List.mem_cons_self
    obtain ⟨r, hr⟩ := perm_rest l (h.erase a) h2 (fun x hx => by
      refine (List.mem_erase_of_ne ?_).2 (hs x (List.mem_cons_of_mem _ hx))
      rintro rfl; exact h1 hx)
    exact ⟨r, (List.perm_cons_erase ha).trans (List.Perm.cons a hr)⟩
theorem map_nodup {α β : Type} {f : α → β} : ∀ (l : List α), l.Nodup → (∀ a ∈ l, ∀ b ∈ l, f a = f b → a = b) → (l.map f).Nodup
  | [], _, _ => List.nodup_nil
  | a :: l, hn, hi => by
    obtain ⟨h1, h2⟩ := List.nodup_cons.1 hn
    rw [List.map_cons, List.nodup_cons]
    refine ⟨fun hm => ?_, map_nodup l h2 (fun x hx y hy => hi x (List.mem_cons_of_mem _ hx) y (List.mem_cons_of_mem _ hy))⟩
    obtain ⟨b, hb, e⟩ := List.mem_map.1 hm
    have := hi b (List.mem_cons_of_mem _ hb) a List.mem_cons_self e
    subst this; exact h1 hb
/-- The image of a hand, in order. -/
def handR (f : Nat → Int) (g : List C4) : List C4 := sortU (g.map (img f))
/-- Is each image one of the others? -/
def hitB (f : Nat → Int) (g h : List C4) : Bool := g.all fun c => decide (img f c ∈ h)
theorem hit_perm {f : Nat → Int} {g h : List C4} (hm : mapB f = true) (hg : Asc g) (hl : g.length = h.length) (hh : hitB f g h = true) : h.Perm (g.map (img f)) := by
  have hn : (g.map (img f)).Nodup := map_nodup g hg.nodup (fun a ha b hb => toF_img2 hm (hg.ok a ha) (hg.ok b hb))
  obtain ⟨r, hr⟩ := perm_rest (g.map (img f)) h hn (fun x hx => by
    obtain ⟨c, hc, rfl⟩ := List.mem_map.1 hx
    exact of_decide_eq_true (List.all_eq_true.1 hh c hc))
  have := hr.length_eq
  rw [List.length_append, List.length_map] at this
  have : r = [] := List.eq_nil_of_length_eq_zero (by omega)
  subst this
  simpa using hr
theorem hit_iff {f : Nat → Int} {g h : List C4} (hm : mapB f = true) (hg : Asc g) (hh : Asc h) (hl : g.length = h.length) : hitB f g h = true ↔ handR f g = h := by
  have hok : ∀ z ∈ g.map (img f), Ok z := fun z hz => by
    obtain ⟨c, hc, rfl⟩ := List.mem_map.1 hz
    exact ok_img hm (hg.ok c hc)
  constructor
  · intro k
    have hp := hit_perm hm hg hl k
    exact srt_unique (sortU_srt hok) hh.asc (fun x => by rw [handR, mem_sortU hok]; exact (hp.mem_iff (a := x)).symm)
  · intro k
    refine List.all_eq_true.2 fun c hc => decide_eq_true ?_
    rw [← k]
    exact (mem_sortU hok _).2 (List.mem_map.2 ⟨c, hc, rfl⟩)
/-- How often a value is at a trait of a hand. -/
def colN (h : List C4) (i : Nat) (v : Int) : Nat := h.countP fun c => decide (trt c i = v)
theorem trt_img {f : Nat → Int} {c : C4} {i : Nat} (hi : i < 4) : trt (img f c) i = f (4 + 3 * i + (trt c (natM f i)).toNat) := by
  have h' : i = 0 ∨ i = 1 ∨ i = 2 ∨ i = 3 := by omega
  rcases h' with rfl | rfl | rfl | rfl <;> rfl
theorem col_img {f : Nat → Int} {i v : Nat} (hm : mapB f = true) (hi : i < 4) (hv : v < 3) : ∀ (g : List C4), (∀ z ∈ g, Ok z) → colN (g.map (img f)) i (f (4 + 3 * i + v)) = colN g (natM f i) v := by
  have k := map_nat hm
  obtain ⟨p0, p1, p2, p3, _⟩ := mapB_parts hm
  have inj : ∀ u, u < 3 → f (4 + 3 * i + u) = f (4 + 3 * i + v) → u = v := fun u hu e => by
    have h' : i = 0 ∨ i = 1 ∨ i = 2 ∨ i = 3 := by omega
    have hu' : u = 0 ∨ u = 1 ∨ u = 2 := by omega
    have hv' : v = 0 ∨ v = 1 ∨ v = 2 := by omega
    have q0 := perm_ne3 p0
    have q1 := perm_ne3 p1
    have q2 := perm_ne3 p2
    have q3 := perm_ne3 p3
    rcases h' with rfl | rfl | rfl | rfl <;> rcases hu' with rfl | rfl | rfl <;> rcases hv' with rfl | rfl | rfl <;> simp at e ⊢ <;> first | exact q0.1 e | exact q0.1 e.symm | exact q0.2.1 e | exact q0.2.1 e.symm | exact q0.2.2 e | exact q0.2.2 e.symm | exact q1.1 e | exact q1.1 e.symm | exact q1.2.1 e | exact q1.2.1 e.symm | exact q1.2.2 e | exact q1.2.2 e.symm | exact q2.1 e | exact q2.1 e.symm | exact q2.2.1 e | exact q2.2.1 e.symm | exact q2.2.2 e | exact q2.2.2 e.symm | exact q3.1 e | exact q3.1 e.symm | exact q3.2.1 e | exact q3.2.1 e.symm | exact q3.2.2 e | exact q3.2.2 e.symm
  intro g hok
  unfold colN
  rw [List.countP_map]
  refine List.countP_congr fun c hc => ?_
  have hb := trt_ok (hok c hc) (natM f i)
  simp only [Function.comp, decide_eq_true_eq, trt_img hi]
  constructor
  · intro e; have := inj _ (by omega) e; omega
  · intro e; rw [e]; rfl
theorem col_fit {f : Nat → Int} {g h : List C4} {i v : Nat} (hm : mapB f = true) (hg : Asc g) (hh : Asc h) (hl : g.length = h.length) (hk : handR f g = h) (hi : i < 4) (hv : v < 3) :
    colN g (natM f i) v = colN h i (f (4 + 3 * i + v)) := by
  rw [← col_img hm hi hv g hg.ok]
  unfold colN
  exact ((hit_perm hm hg hl ((hit_iff hm hg hh hl).2 hk)).countP_eq _).symm

/-- All orders of three and of four numbers. -/
def ext1 (n : Nat) (P : List Nat) : List (List Nat) := ((List.range n).filter fun v => !P.contains v).map fun v => P ++ [v]
def permsK (n : Nat) : Nat → List (List Nat)
  | 0 => [[]]
  | k + 1 => (permsK n k).flatMap (ext1 n)
def ordV (n : Nat) : Nat → List Nat → List (List Nat)
  | 0, P => [P]
  | d + 1, P => (ext1 n P).flatMap (ordV n d)
def six : List (List Nat) := permsK 3 3
def many : List (List Nat) := permsK 4 4
theorem six_ord : ordV 3 3 [] = six := by decide
theorem many_ord : ordV 4 4 [] = many := by decide +kernel
theorem six_ok : ∀ p ∈ six, p.length = 3 ∧ permB (natInts p) = true := by decide
theorem many_ok : ∀ p ∈ many, p.length = 4 ∧ permB (natInts p) = true := by decide +kernel

/-- A map with other values at a trait. -/
def setv (f : Nat → Int) (i : Nat) (p : List Nat) : Nat → Int := fun j => if 4 + 3 * i ≤ j ∧ j < 7 + 3 * i then ((p.getD (j - (4 + 3 * i)) 0 : Nat) : Int) else f j
/-- A map with traits, and no values as yet. -/
def m0 (t : List Nat) : Nat → Int := fun j => if j < 4 then ((t.getD j 0 : Nat) : Int) else 0
/-- The maps that go on from a trait; 'd' traits are left. -/
def goOn : Nat → (Nat → Int) → List (Nat → Int)
  | 0, f => [f]
  | d + 1, f => six.flatMap fun p => goOn d (setv f (3 - d) p)
def fitB (g h : List C4) (f : Nat → Int) (i : Nat) (p : List Nat) : Bool :=
  colN g (natM f i) 0 == colN h i ((p.getD 0 0 : Nat) : Int) && (colN g (natM f i) 1 == colN h i ((p.getD 1 0 : Nat) : Int) && colN g (natM f i) 2 == colN h i ((p.getD 2 0 : Nat) : Int))
def tryR (g h : List C4) : Nat → (Nat → Int) → Option (Nat → Int)
  | 0, f => if handR f g = h then some f else none
  | d + 1, f => (six.filter (fitB g h f (3 - d))).findSome? fun p => tryR g h d (setv f (3 - d) p)
/-- Traits, and the values of the first traits, are orders. -/
structure Part (f : Nat → Int) (i : Nat) : Prop where
  tr : permB [f 0, f 1, f 2, f 3] = true
  vs : ∀ k, k < i → permB [f (4 + 3 * k), f (5 + 3 * k), f (6 + 3 * k)] = true
theorem Part.map {f : Nat → Int} (h : Part f 4) : mapB f = true := by
  have a := h.vs 0 (by omega)
  have b := h.vs 1 (by omega)
  have c := h.vs 2 (by omega)
  have d := h.vs 3 (by omega)
  simp only [Nat.mul_zero, Nat.add_zero, Nat.reduceMul, Nat.reduceAdd] at a b c d
  simp only [mapB, a, b, c, d, h.tr, Bool.and_true]
theorem three {p : List Nat} (h : p.length = 3) : natInts p = [((p.getD 0 0 : Nat) : Int), ((p.getD 1 0 : Nat) : Int), ((p.getD 2 0 : Nat) : Int)] := by
  match p, h with
  | [a, b, c], _ => rfl
theorem four {p : List Nat} (h : p.length = 4) : natInts p = [((p.getD 0 0 : Nat) : Int), ((p.getD 1 0 : Nat) : Int), ((p.getD 2 0 : Nat) : Int), ((p.getD 3 0 : Nat) : Int)] := by
  match p, h with
  | [a, b, c, d], _ => rfl
theorem Part.set {f : Nat → Int} {i : Nat} {p : List Nat} (h : Part f i) (hp : p ∈ six) : Part (setv f i p) (i + 1) := by
  obtain ⟨h3, hk⟩ := six_ok p hp
  rw [three h3] at hk
  have e : ∀ j, j < 4 + 3 * i → setv f i p j = f j := fun j hj => by unfold setv; rw [if_neg (by omega)]
  refine ⟨?_, fun k hki => ?_⟩
  · rw [e 0 (by omega), e 1 (by omega), e 2 (by omega), e 3 (by omega)]; exact h.tr
  · by_cases hk2 : k < i
    · rw [e _ (by omega), e _ (by omega), e _ (by omega)]; exact h.vs k hk2
    · obtain rfl : k = i := by omega
      have e0 : setv f k p (4 + 3 * k) = ((p.getD 0 0 : Nat) : Int) := by unfold setv; rw [if_pos (by omega), Nat.sub_self]
      have e1 : setv f k p (5 + 3 * k) = ((p.getD 1 0 : Nat) : Int) := by unfold setv; rw [if_pos (by omega), show 5 + 3 * k - (4 + 3 * k) = 1 by omega]
      have e2 : setv f k p (6 + 3 * k) = ((p.getD 2 0 : Nat) : Int) := by unfold setv; rw [if_pos (by omega), show 6 + 3 * k - (4 + 3 * k) = 2 by omega]
      rw [e0, e1, e2]; exact hk
theorem part0 {t : List Nat} (ht : t ∈ many) : Part (m0 t) 0 := by
  obtain ⟨h4, hk⟩ := many_ok t ht
  rw [four h4] at hk
  exact ⟨hk, fun k h => by omega⟩
/-- What a map that goes on keeps. -/
theorem goOn_keep : ∀ (d : Nat) (f m : Nat → Int), d ≤ 4 → m ∈ goOn d f → ∀ j, j < 4 + 3 * (4 - d) → m j = f j
  | 0, f, m, _, h, j, _ => by simp [goOn] at h; rw [h]
  | d + 1, f, m, hd, h, j, hj => by
    simp only [goOn, List.mem_flatMap] at h
    obtain ⟨p, hp, hm⟩ := h
    rw [goOn_keep d _ m (by omega) hm j (by omega)]
    unfold setv
    rw [if_neg (by omega)]
theorem goOn_map : ∀ (d : Nat) (f m : Nat → Int), d ≤ 4 → Part f (4 - d) → m ∈ goOn d f → mapB m = true
  | 0, f, m, _, hP, h => by simp [goOn] at h; rw [h]; exact hP.map
  | d + 1, f, m, hd, hP, h => by
    simp only [goOn, List.mem_flatMap] at h
    obtain ⟨p, hp, hm⟩ := h
    have := hP.set hp
    rw [show 4 - (d + 1) = 3 - d by omega] at this
    exact goOn_map d _ m (by omega) (by rw [show 4 - d = 3 - d + 1 by omega]; exact this) hm
theorem find_filter {α β : Type} (q : α → Bool) (F : α → Option β) : ∀ l : List α, (∀ x ∈ l, q x = false → F x = none) → (l.filter q).findSome? F = l.findSome? F
  | [], _ => rfl
  | a :: l, h => by
    have ih := find_filter q F l (fun x hx => h x (List.mem_cons_of_mem _ hx))
    cases hq : q a
    · rw [List.filter_cons_of_neg (by simp [hq]), List.findSome?_cons, h a List.mem_cons_self hq, ih]
    · rw [List.filter_cons_of_pos hq, List.findSome?_cons, List.findSome?_cons, ih]
theorem find_flat {α β : Type} (q : β → Bool) (G : α → List β) : ∀ l : List α, (l.flatMap G).find? q = l.findSome? (fun x => (G x).find? q)
  | [] => rfl
  | a :: l => by
    rw [List.flatMap_cons, List.find?_append, find_flat q G l, List.findSome?_cons]
    cases (G a).find? q <;> rfl
theorem findSome_congr {α β : Type} {F G : α → Option β} : ∀ l : List α, (∀ x ∈ l, F x = G x) → l.findSome? F = l.findSome? G
  | [], _ => rfl
  | a :: l, h => by
    rw [List.findSome?_cons, List.findSome?_cons, h a List.mem_cons_self, findSome_congr l (fun x hx => h x (List.mem_cons_of_mem _ hx))]
/-- The search that leaves out what does not fit finds what the plain one finds. -/
theorem tryR_eq {g h : List C4} (hg : Asc g) (hh : Asc h) (hl : g.length = h.length) : ∀ (d : Nat) (f : Nat → Int), d ≤ 4 → Part f (4 - d) → tryR g h d f = (goOn d f).find? fun m => hitB m g h
  | 0, f, _, hP => by
    have k := hit_iff hP.map hg hh hl
    simp only [tryR, goOn, List.find?_cons, List.find?_nil]
    cases hb : hitB f g h
    · rw [if_neg (fun e => by rw [k.2 e] at hb; cases hb)]
    · rw [if_pos (k.1 hb)]
  | d + 1, f, hd, hP => by
    have hP' : Part f (3 - d) := by rw [show 4 - (d + 1) = 3 - d by omega] at hP; exact hP
    have ih : ∀ p ∈ six, tryR g h d (setv f (3 - d) p) = (goOn d (setv f (3 - d) p)).find? fun m => hitB m g h := fun p hp =>
      tryR_eq hg hh hl d _ (by omega) (by rw [show 4 - d = 3 - d + 1 by omega]; exact hP'.set hp)
    rw [tryR, goOn, find_flat, find_filter]
    · exact findSome_congr _ ih
    · intro p hp hq
      rw [ih p hp]
      rw [List.find?_eq_none]
      intro m hm hb
      have hPs : Part (setv f (3 - d) p) (4 - d) := by rw [show 4 - d = 3 - d + 1 by omega]; exact hP'.set hp
      have hmB := goOn_map d _ m (by omega) hPs hm
      have hkeep := goOn_keep d _ m (by omega) hm
      have hR := (hit_iff hmB hg hh hl).1 hb
      have e0 : m (3 - d) = f (3 - d) := by
        rw [hkeep _ (by omega)]; unfold setv; rw [if_neg (by omega)]
      have en : natM m (3 - d) = natM f (3 - d) := by unfold natM; rw [e0]
      have ev : ∀ v, v < 3 → m (4 + 3 * (3 - d) + v) = ((p.getD v 0 : Nat) : Int) := fun v hv => by
        rw [hkeep _ (by omega)]; unfold setv; rw [if_pos (by omega), Nat.add_sub_cancel_left]
      have c0 := col_fit hmB hg hh hl hR (i := 3 - d) (v := 0) (by omega) (by omega)
      have c1 := col_fit hmB hg hh hl hR (i := 3 - d) (v := 1) (by omega) (by omega)
      have c2 := col_fit hmB hg hh hl hR (i := 3 - d) (v := 2) (by omega) (by omega)
      rw [en, ev 0 (by omega)] at c0
      rw [en, ev 1 (by omega)] at c1
      rw [en, ev 2 (by omega)] at c2
      simp only [Int.natCast_zero, Int.natCast_one] at c0 c1
      have c2' : colN g (natM f (3 - d)) 2 = colN h (3 - d) ((p.getD 2 0 : Nat) : Int) := c2
      simp only [fitB, c0, c1, c2', beq_self_eq_true, Bool.and_true] at hq
      cases hq
/-- All maps, in order. -/
def allM : List (Nat → Int) := many.flatMap fun t => goOn 4 (m0 t)
def foundR (g h : List C4) : Option (Nat → Int) := if g.length = h.length then allM.find? (fun m => hitB m g h) else none
theorem found_try {g h : List C4} (hg : Asc g) (hh : Asc h) (hl : g.length = h.length) : foundR g h = many.findSome? fun t => tryR g h 4 (m0 t) := by
  rw [foundR, if_pos hl, allM, find_flat]
  exact findSome_congr _ fun t ht => (tryR_eq hg hh hl 4 _ (by omega) (part0 ht)).symm
/-- The map with a number of those with the same traits. -/
def dec4 (f : Nat → Int) (n : Nat) : Nat → Int := setv (setv (setv (setv f 0 (six.getD (n / 216) [])) 1 (six.getD (n / 36 % 6) [])) 2 (six.getD (n / 6 % 6) [])) 3 (six.getD (n % 6) [])
theorem prod_six : (List.range 1296).map (fun n => (n / 216, n / 36 % 6, n / 6 % 6, n % 6)) = (List.range 6).flatMap fun a => (List.range 6).flatMap fun b => (List.range 6).flatMap fun c => (List.range 6).map fun d => (a, b, c, d) := by decide +kernel
theorem six_range : six = (List.range 6).map fun n => six.getD n [] := by decide
theorem goOn_dec (f : Nat → Int) : goOn 4 f = (List.range 1296).map (dec4 f) := by
  have e : (List.range 1296).map (dec4 f) = ((List.range 1296).map (fun n => (n / 216, n / 36 % 6, n / 6 % 6, n % 6))).map fun x => setv (setv (setv (setv f 0 (six.getD x.1 [])) 1 (six.getD x.2.1 [])) 2 (six.getD x.2.2.1 [])) 3 (six.getD x.2.2.2 []) := by
    rw [List.map_map]; rfl
  rw [e, prod_six]
  have hs := six_range
  generalize hX : (fun n => six.getD n []) = X at *
  have hX' : ∀ n, six.getD n [] = X n := fun n => by rw [← hX]
  simp only [hX']
  simp only [goOn, hs, Nat.sub_zero, Nat.reduceSub, List.flatMap_map, List.map_flatMap, List.map_map]

  rfl
end Go.Proofs.Ytkmnnnhnajnefaa

namespace Go.Proofs.Ytkmnnnhnajnefaa
set_option linter.unusedSimpArgs false
set_option linter.unusedVariables false
set_option maxHeartbeats 2000000
set_option maxRecDepth 100000
open Go.RowKit

theorem rowP : RowT Try.prog 79 29 1 24 :=
  ⟨Try.underlying79, by
    have h : (Try.prog.info? 29).map (fun i => (i.zero, i.size, i.bytes)) = some (some (.slice none 0 0), 1, 24) := by kernel_rfl
    obtain ⟨i, h1, h2, h3, h4⟩ := info_parts h
    exact ⟨i, _, h1, h2, h3, h4, rfl⟩, by decide⟩
theorem RowV.curT {E size lo g cap n : Nat} {w : World} {xs : List Value} (h : RowV E size lo w g cap n xs) : ∃ cur, w.heap[g]? = some (.cells cur E (0, 0)) ∧ cur.toList.take (n * size) = xs ∧ lo ≤ g ∧ n ≤ cap := by
  rcases h.2 with ⟨h1, _⟩ | ⟨g', cap', cur, h1, h2, h3, h4, h5, h6, h7⟩
  · simp at h1
  · simp at h1
    obtain ⟨rfl, rfl⟩ := h1
    exact ⟨cur, h3, h7, h2, h4⟩
/-- A slice that reads as numbers, at the head of a block of numbers. -/
def InP (w : World) (v : Value) (P : List Nat) : Prop := ∃ gi ci A, v = .slice (some ⟨gi, 0, none⟩) P.length ci ∧ P.length ≤ ci ∧ w.heap[gi]? = some (.cells A 3 (0, 0)) ∧ A.toList.take P.length = intVals (natInts P)
/-- Blocks of numbers are as they were. -/
def KI (w w' : World) : Prop := ∀ (k : Nat) (A : Array Value), w.heap[k]? = some (Obj.cells A 3 (0, 0)) → w'.heap[k]? = some (Obj.cells A 3 (0, 0))
theorem KI.trans {a b c : World} (h : KI a b) (k : KI b c) : KI a c := fun i A hA => k i A (h i A hA)
theorem Ex.ki {w w' : World} (h : Ex w w') : KI w w' := fun k A hA => by
  rw [h.below.block k (Array.getElem?_eq_some_iff.1 hA).1]; exact hA
theorem Keeps.ki {w w' : World} {g : Nat} {C : Array Value} {T : Nat} (h : Keeps g w w') (hg : w.heap[g]? = some (.cells C T (0, 0))) (hT : T ≠ 3) : KI w w' := fun k A hA => by
  by_cases hk : k = g
  · subst hk
    rw [hA] at hg
    simp at hg
    exact absurd hg.2.symm hT
  · rw [h.block k (Array.getElem?_eq_some_iff.1 hA).1 hk]; exact hA
theorem InP.ki {w w' : World} {v : Value} {P : List Nat} (h : InP w v P) (k : KI w w') : InP w' v P := by
  obtain ⟨gi, ci, A, h1, h2, h3, h4⟩ := h
  exact ⟨gi, ci, A, h1, h2, k _ _ h3, h4⟩
theorem sli_of {w : World} {gi : Nat} {A : Array Value} {P : List Nat} (h3 : w.heap[gi]? = some (.cells A 3 (0, 0))) (h4 : A.toList.take P.length = intVals (natInts P)) : SlI w (some ⟨gi, 0, none⟩) (natInts P) := fun i hi => by
  refine ⟨gi, 0, rfl, (Array.getElem?_eq_some_iff.1 h3).1, ?_⟩
  have hi' : i < P.length := by simpa using hi
  have e : A[i]? = (intVals (natInts P))[i]? := by rw [← h4, List.getElem?_take, if_pos hi', Array.getElem?_toList]
  simp only [World.cell?, h3, Nat.zero_add]
  rw [intVals_get _ _ hi] at e
  simpa using e
theorem RowV.inP {lo g cap : Nat} {w : World} {P : List Nat} {n : Nat} (h : RowV 3 1 lo w g cap n (intVals (natInts P))) (hn : n = P.length) : InP w (.slice (some ⟨g, 0, none⟩) n cap) P := by
  subst hn
  obtain ⟨cur, h1, h2, h3, h4⟩ := h.curT
  rw [Nat.mul_one] at h2
  exact ⟨g, cap, cur, rfl, h4, h1, h2⟩
def AllP (w : World) (vs : List Value) (L : List (List Nat)) : Prop := vs.length = L.length ∧ ∀ (i : Nat) (v : Value) (P : List Nat), vs[i]? = some v → L[i]? = some P → InP w v P
theorem AllP.ki {w w' : World} {vs : List Value} {L : List (List Nat)} (h : AllP w vs L) (k : KI w w') : AllP w' vs L := ⟨h.1, fun i v P h1 h2 => (h.2 i v P h1 h2).ki k⟩
theorem AllP.nil (w : World) : AllP w [] [] := ⟨rfl, fun i v P h => by simp at h⟩
theorem AllP.snoc {w : World} {vs : List Value} {L : List (List Nat)} {v : Value} {P : List Nat} (h : AllP w vs L) (k : InP w v P) : AllP w (vs ++ [v]) (L ++ [P]) := by
  refine ⟨by simp [h.1], fun i u Q h1 h2 => ?_⟩
  by_cases hi : i < vs.length
  · rw [List.getElem?_append_left hi] at h1
    rw [List.getElem?_append_left (by rw [← h.1]; exact hi)] at h2
    exact h.2 i u Q h1 h2
  · have hlt := (List.getElem?_eq_some_iff.1 h1).1
    simp at hlt
    have : i = vs.length := by omega
    subst this
    rw [List.getElem?_append_right (Nat.le_refl _)] at h1
    rw [h.1, List.getElem?_append_right (Nat.le_refl _)] at h2
    simp at h1 h2
    subst h1; subst h2
    exact k
theorem row_inp {lo g cap n : Nat} {w : World} {vs : List Value} {L : List (List Nat)} (h : RowV 29 1 lo w g cap n vs) (hA : AllP w vs L) (hn : n = L.length) {i : Nat} (hi : i < L.length) : ∃ v, w.cell? ⟨g, i, none⟩ = some v ∧ InP w v L[i] := by
  obtain ⟨cur, h1, h2, h3, h4⟩ := h.curT
  have hv : i < vs.length := by rw [hA.1]; exact hi
  refine ⟨vs[i], ?_, hA.2 i _ _ (List.getElem?_eq_getElem hv) (List.getElem?_eq_getElem hi)⟩
  have e : cur[i]? = vs[i]? := by rw [← h2, List.getElem?_take, if_pos (by omega), Array.getElem?_toList]
  simp only [World.cell?, h1]
  rw [e, List.getElem?_eq_getElem hv]
  rfl
/-- A slice that reads as rows of numbers. -/
def SlP (w : World) (g n : Nat) (L : List (List Nat)) : Prop := n = L.length ∧ g < w.heap.size ∧ ∀ i (h : i < L.length), ∃ v, w.cell? ⟨g, i, none⟩ = some v ∧ InP w v L[i]
theorem SlP.ex {w w' : World} {g n : Nat} {L : List (List Nat)} (h : SlP w g n L) (k : Ex w w') : SlP w' g n L :=
  ⟨h.1, Nat.lt_of_lt_of_le h.2.1 k.below.size, fun i hi => by
    obtain ⟨v, h1, h2⟩ := h.2.2 i hi
    exact ⟨v, by rw [k.below.cell h.2.1]; exact h1, h2.ki k.ki⟩⟩
theorem RowV.lay {T : Nat} {W : World} {g lo : Nat} {v : Value} (hg : g = W.heap.size) (hlo : lo ≤ g) : RowV T 1 lo (W.alloc (.cells #[v] T)) g 1 1 [v] := by
  subst hg
  exact ⟨rfl, Or.inr ⟨W.heap.size, 1, _, rfl, hlo, heap_alloc_new W _, Nat.le_refl _, by unfold maxLen; omega, rfl, rfl⟩⟩
theorem oneP (v : Value) (h : v.oneCell' = true) : ∀ u ∈ [v], u.oneCell' = true := by intro u hu; simp at hu; subst hu; exact h

/-- The rows that a row is drawn out to, as far as a number. -/
def extV (P : List Nat) (v : Nat) : List (List Nat) := ((List.range v).filter fun x => !P.contains x).map fun x => P ++ [x]
theorem extV_yes {P : List Nat} {v : Nat} (h : P.contains v = false) : extV P (v + 1) = extV P v ++ [P ++ [v]] := by
  unfold extV
  rw [List.range_succ, List.filter_append, List.map_append]
  congr 1
  rw [List.filter_cons_of_pos (by simp only [h, Bool.not_false])]
  rfl
theorem extV_no {P : List Nat} {v : Nat} (h : P.contains v = true) : extV P (v + 1) = extV P v := by
  unfold extV
  rw [List.range_succ, List.filter_append, List.filter_cons_of_neg (by simp only [h, Bool.not_true, Bool.false_eq_true, not_false_eq_true])]
  simp
theorem flat_take {α β : Type} {F : α → List β} {L : List α} {i : Nat} (hi : i < L.length) : (L.take (i + 1)).flatMap F = (L.take i).flatMap F ++ F L[i] := by
  rw [List.take_add_one, List.getElem?_eq_getElem hi, List.flatMap_append]
  simp
theorem cont_nat (P : List Nat) (v : Nat) : (natInts P).contains (v : Int) = P.contains v := by
  rw [Bool.eq_iff_iff, List.contains_iff_mem, List.contains_iff_mem]
  simp only [natInts, List.mem_map]
  constructor
  · rintro ⟨x, hx, e⟩; have : x = v := by omega
    subst this; exact hx
  · intro h; exact ⟨v, h, rfl⟩
theorem permsK_bd : ∀ n, n ≤ 4 → ∀ k, k ≤ n → (permsK n k).length ≤ 24 ∧ ∀ P ∈ permsK n k, P.length = k := by
  have h : ((List.range 5).all fun n => (List.range (n + 1)).all fun k => decide ((permsK n k).length ≤ 24) && (permsK n k).all fun P => decide (P.length = k)) = true := by decide +kernel
  intro n hn k hk
  have h1 := List.all_eq_true.1 h n (List.mem_range.2 (by omega))
  have h2 := List.all_eq_true.1 h1 k (List.mem_range.2 (by omega))
  simp only [Bool.and_eq_true, decide_eq_true_eq, List.all_eq_true] at h2
  exact h2
theorem extV_len (P : List Nat) (v : Nat) : (extV P v).length ≤ v := by
  unfold extV
  rw [List.length_map]
  exact Nat.le_trans (List.length_filter_le _ _) (by simp)
theorem flat_len (L : List (List Nat)) (n : Nat) : (L.flatMap (ext1 n)).length ≤ L.length * n := by
  induction L with
  | nil => simp
  | cons P L ih =>
    have := extV_len P n
    rw [List.flatMap_cons, List.length_append, List.length_cons, Nat.succ_mul]
    have e : (ext1 n P).length = (extV P n).length := rfl
    omega
theorem l5Perms_c (n : Nat) (hn : n ≤ 4) (w : World) : Calls Try.prog 74 #[.int .i64 n] w fun e w' => ∃ g N cap, e = .returned (.slice (some ⟨g, 0, none⟩) N cap) ∧ N ≤ cap ∧ Ex w w' ∧ SlP w' g N (permsK n n) ∧ w.heap.size ≤ g := by
  go_enter Try.func74, Try.ntmps74
  go_wp2
  go_loopw [3, 4] (fun u v wr => ∃ (k g N cap : Nat) (vs : List Value), k ≤ n ∧ v = .int .i64 k ∧ u = .slice (some ⟨g, 0, none⟩) N cap ∧ N = (permsK n k).length ∧ Ex w wr ∧ RowV 29 1 w.heap.size wr g cap N vs ∧ AllP wr vs (permsK n k)) (fun _ v _ => n - (intOf v).toNat)
  case atStart =>
    refine ⟨0, w.heap.size + 1, 1, 1, _, Nat.zero_le _, rfl, rfl, rfl, by repeat (first | exact Ex.refl _ | refine Ex.ext ?_ _ | refine Ex.alloc ?_ _ | refine Ex.drew ?_), RowV.lay (by simp) (by omega), ?_⟩
    refine AllP.snoc (AllP.nil _) ⟨w.heap.size, 0, #[], rfl, Nat.le_refl _, ?_, rfl⟩
    rw [heap_alloc_old (h := by simp), heap_alloc_new]
  case round =>
    obtain ⟨k, g, N, cap, vs, hk, rfl, rfl, hN, hE, hrow, hall⟩ := hrel
    have HE := Lib.hid hE
    have HR := Lib.hid hrow
    have HA := Lib.hid hall
    have HN := Lib.hid hN
    have hbd := (permsK_bd n hn k hk)
    have HB := Lib.hid hbd.2
    have hN24 : N ≤ 24 := by omega
    clear hE hrow hall hN hbd
    by_cases hlt : k < n
    · obtain ⟨L, hL⟩ : ∃ L, permsK n k = L := ⟨_, rfl⟩
      have HL := Lib.hid (show permsK n (k + 1) = L.flatMap (ext1 n) by rw [← hL]; rfl)
      rw [hL] at HA HN HB
      clear hL
      go_wp2
      obtain ⟨wo, rfl⟩ : ∃ wo : World, wo = wr := ⟨_, rfl⟩
      go_loopw [5, 6] (fun u v wr => ∃ (i g2 M cap2 : Nat) (us : List Value), i ≤ N ∧ v = .int .i64 i ∧ u = .slice (some ⟨g2, 0, none⟩) M cap2 ∧ M = ((L.take i).flatMap (ext1 n)).length ∧ Ex wo wr ∧ RowV 29 1 wo.heap.size wr g2 cap2 M us ∧ AllP wr us ((L.take i).flatMap (ext1 n))) (fun _ v _ => N - (intOf v).toNat)
      case atStart => exact ⟨0, wo.heap.size, 0, 0, [], Nat.zero_le _, rfl, rfl, rfl, by repeat (first | exact Ex.refl _ | refine Ex.ext ?_ _ | refine Ex.alloc ?_ _ | refine Ex.drew ?_), RowV.start wo _ _, AllP.nil _⟩
      case round =>
        obtain ⟨i, g2, M, cap2, us, hi, rfl, rfl, hM, hE, hrow2, hall2⟩ := hrel
        have HE2 := Lib.hid hE
        have HR2 := Lib.hid hrow2
        have HA2 := Lib.hid hall2
        have hMb : M ≤ 24 * 4 := by
          rw [hM]
          refine Nat.le_trans (flat_len _ _) (Nat.mul_le_mul ?_ hn)
          rw [List.length_take]
          have := HN.out
          omega
        have HM := Lib.hid hM
        clear hE hrow2 hall2 hM
        by_cases hlt2 : i < N
        · have hiL : i < L.length := by rw [← HN.out]; exact hlt2
          have HF := Lib.hid (flat_take (F := ext1 n) hiL)
          have hPl := HB.out _ (List.getElem_mem hiL)
          obtain ⟨v0, hc0, hin0⟩ := row_inp HR.out HA.out HN.out hiL
          generalize L[i] = P at *
          obtain ⟨gi, ci, A, rfl, hci, hhp, htk⟩ := hin0
          rw [hPl] at hc0 hci htk
          have hgl := HR.out.blk
          have Hhp := Lib.hid hhp
          have Htk := Lib.hid htk
          clear hhp htk
          go_wp2
          obtain ⟨wp, rfl⟩ : ∃ wp : World, wp = wr := ⟨_, rfl⟩
          go_loopw [5, 7] (fun u v wr => ∃ (x g3 M3 cap3 : Nat) (ts : List Value), x ≤ n ∧ v = .int .i64 x ∧ u = .slice (some ⟨g3, 0, none⟩) M3 cap3 ∧ M3 = ((L.take i).flatMap (ext1 n)).length + (extV P x).length ∧ Ex wo wr ∧ RowV 29 1 wo.heap.size wr g3 cap3 M3 ts ∧ AllP wr ts ((L.take i).flatMap (ext1 n) ++ extV P x)) (fun _ v _ => n - (intOf v).toNat)
          case atStart => exact ⟨0, g2, M, cap2, us, Nat.zero_le _, rfl, rfl, by rw [HM.out]; rfl, HE2.out, HR2.out, by rw [show extV P 0 = [] from rfl, List.append_nil]; exact HA2.out⟩
          case round =>
            obtain ⟨x, g3, M3, cap3, ts, hx, rfl, rfl, hM3, hE, hrow3, hall3⟩ := hrel
            have HE3 := Lib.hid hE
            have HR3 := Lib.hid hrow3
            have HA3 := Lib.hid hall3
            have hM3b : M3 ≤ 200 := by
              have := extV_len P x
              have := HM.out
              omega
            have HM3 := Lib.hid hM3
            have hc1 := (hE.below.cell hgl.2).trans hc0
            clear hE hrow3 hall3 hM3
            by_cases hlt3 : x < n
            · have Hsl := Lib.hid (show ∀ W, Ex wo W → SlI W (some ⟨gi, 0, none⟩) (natInts P) from fun W hW => sli_of (hW.ki _ _ Hhp.out) (by rw [hPl]; exact Htk.out))
              have HH := Lib.hid (fun W (hW : Ex wo W) => l1Has_c (natInts P) (x : Int) (some ⟨gi, 0, none⟩) k ci W (by simp [hPl]) (by omega) (Hsl.out W hW))
              have HO := Lib.hid (fun W (hW : Ex wo W) => l1Own_c (natInts P) gi 0 k ci W (by simp [hPl]) (by omega) (Hsl.out W hW))
              rw [cont_nat] at HH
              cases hct : P.contains x
              · rw [hct] at HH
                have HX := Lib.hid (extV_yes hct)
                clear hct
                go_wp2_with (first | (go_at_call 85; refine (HH.out _ (HE3.out.trans (by exact by repeat (first | exact Ex.refl _ | refine Ex.ext ?_ _ | refine Ex.alloc ?_ _ | refine Ex.drew ?_)))).mono ?_; rintro e w5 ⟨rfl, hx5⟩; have hE5 := HE3.out.trans hx5; have hc5 := (hx5.below.cell (by have := HE3.out.below.size; simp; omega)).trans hc1) |
                  (go_at_call 64; refine (HO.out _ (hE5.trans (by exact by repeat (first | exact Ex.refl _ | refine Ex.ext ?_ _ | refine Ex.alloc ?_ _ | refine Ex.drew ?_)))).mono ?_; rintro e w6 ⟨g6, cap6, rfl, hx6, hr6⟩) |
                  ((at_builtin; refine wp_app rowInt (nW := _) (by simp [go_sem]) rfl _ _ rfl rfl (hr6.ex (by exact by repeat (first | exact Ex.refl _ | refine Ex.ext ?_ _ | refine Ex.alloc ?_ _ | refine Ex.drew ?_))) 1 1 [.int .i64 (x : Int)] rfl rfl (one1 _) (by omega) ?c2 ?c3 ?_; (case c2 => (unfold maxLen; omega)); (case c3 => omega); intro g7 cap7 w7 hr7 hK7 hg7); have hE7 : Ex wr w7 := Keeps.ex (hx5.trans hx6) hK7 (by have := hr6.blk; have := hx5.below.size; omega); have hr37 := HR3.out.ex hE7) |
                  (at_builtin; refine wp_app rowP (nW := _) (by simp [go_sem]) rfl _ _ rfl rfl hr37 1 1 [.slice (some ⟨g7, 0, none⟩) (k + 1) cap7] rfl rfl (oneP _ rfl) (by omega) ?c2 ?c3 ?_; (case c2 => (unfold maxLen; omega)); (case c3 => omega); intro g8 cap8 w8 hr8 hK8 hg8))
                go_roundw
                case rel =>
                  have hK8i : KI w7 w8 := by
                    obtain ⟨cur, h1, _⟩ := hr37.curT
                    exact hK8.ki h1 (by decide)
                  refine ⟨x + 1, g8, M3 + 1, cap8, _, by omega, by go_num, rfl, ?_, Keeps.ex (HE3.out.trans hE7) hK8 HR3.out.blk.1, hr8, ?_⟩
                  · rw [HX.out, HM3.out]; simp; omega
                  · rw [HX.out, ← List.append_assoc]
                    refine AllP.snoc ((HA3.out.ki hE7.ki).ki hK8i) (InP.ki ?_ hK8i)
                    refine RowV.inP (lo := w5.heap.size) ?_ (by simp [hPl])
                    rw [natInts_snoc, intVals_append]
                    exact hr7
                case measure => simp [intOf]; omega
              · rw [hct] at HH
                have HX := Lib.hid (extV_no hct)
                clear hct
                go_wp2_with (go_at_call 85; refine (HH.out _ (HE3.out.trans (by exact by repeat (first | exact Ex.refl _ | refine Ex.ext ?_ _ | refine Ex.alloc ?_ _ | refine Ex.drew ?_)))).mono ?_; rintro e w5 ⟨rfl, hx5⟩)
                go_roundw
                case rel => exact ⟨x + 1, g3, M3, cap3, ts, by omega, by go_num, rfl, by rw [HX.out, HM3.out], HE3.out.trans hx5, HR3.out.ex hx5, by rw [HX.out]; exact HA3.out.ki hx5.ki⟩
                case measure => simp [intOf]; omega
            · have : x = n := by omega
              subst this
              go_wp2
              go_roundw
              case rel => exact ⟨i + 1, g3, M3, cap3, ts, by omega, by go_num, rfl, by rw [HF.out, List.length_append, HM3.out]; rfl, HE3.out, HR3.out, by rw [HF.out]; exact HA3.out⟩
              case measure => simp [intOf]; omega
        · have hiN : i = N := by omega
          subst hiN
          have HT := Lib.hid (show L.take i = L by rw [HN.out, List.take_length])
          rw [HT.out] at HM HA2
          go_wp2
          go_roundw
          case rel => exact ⟨k + 1, g2, M, cap2, us, by omega, by go_num, rfl, by rw [HL.out, HM.out], HE.out.trans HE2.out, HR2.out.low HE.out.below.size, by rw [HL.out]; exact HA2.out⟩
          case measure => simp [intOf]; omega
    · have : k = n := by omega
      subst this
      go_wp2
      go_ret
      exact ⟨g, N, cap, rfl, HR.out.lens.1, HE.out, ⟨HN.out, HR.out.blk.2, fun i hi => row_inp HR.out HA.out HN.out hi⟩, HR.out.blk.1⟩
end Go.Proofs.Ytkmnnnhnajnefaa

namespace Go.Proofs.Ytkmnnnhnajnefaa
set_option linter.unusedSimpArgs false
set_option linter.unusedVariables false
set_option maxHeartbeats 2000000
set_option maxRecDepth 100000
open Go.RowKit

theorem slice_olds {w : World} {q : Option Addr} {zs : List Int} {B : Nat} (h : SlI w q zs) (hq : q = none ∨ ∃ b o, q = some ⟨b, o, none⟩ ∧ b ≠ B) : ∀ b, q = some b → ∀ j u, (intVals zs)[j]? = some u → w.cell? (b.add j) = some u := by
  intro b e
  rcases hq with h0 | ⟨b', o', h0, _⟩
  · rw [e] at h0; simp at h0
  · rw [e] at h0
    simp at h0
    subst h0
    rw [e] at h
    exact h.cells
theorem sli_none {w : World} {zs : List Int} {n : Nat} (h : SlI w none zs) (hn : zs.length = n) : n = 0 := by
  cases n with
  | zero => rfl
  | succ n =>
    obtain ⟨b, o, e, _⟩ := h 0 (by omega)
    simp at e
theorem box_one (w : World) (x : Int) (T : TypeId) : ∀ j u, [Value.int .i64 x][j]? = some u → (w.alloc (.cells #[.int .i64 x] T)).cell? ((⟨w.heap.size, 0, none⟩ : Addr).add j) = some u := by
  intro j u hj
  match j, hj with
  | 0, hj => simp at hj; subst hj; simp [Addr.add]
theorem own_succ {w : World} {B n T : Nat} {v : Value} {xs : List Value} (h : w.ownsRow B T 1 v (n + 1) xs) : ∃ g cap, v = .slice (some ⟨g, 0, none⟩) (n + 1) cap ∧ RowV T 1 B w g cap (n + 1) xs := by
  obtain ⟨p1, c1, rfl, hp1⟩ := own_form h
  rcases h.2 with ⟨h1, h2⟩ | ⟨g, cap2, cur, h1, h2, h3, h4⟩
  · simp at h1
  · simp at h1
    obtain ⟨rfl, rfl⟩ := h1
    exact ⟨g, c1, rfl, h⟩

theorem wpList_wanted {P : Program} {ops : Array Oper} {rest : List Oper} {o : Oper} {a : Act} {Q : Exit → Act → World → Prop} {w : World} (hw : Region.wanted o (yielded ops a.tmps) = true)
    (h : ∀ K : Act → World → Prop, (∀ a w, wpList P ops Q rest a w → K a w) → o.wp P a w K Q) : wpList P ops Q (o :: rest) a w :=
  wpList_step fun K hK => by simp only [hw, if_true]; exact h K hK
/-- append to a full slice, where the operation is guarded and its guard holds. -/
theorem wp_grows_w {P : Program} (w : World) {ops : Array Oper} {rest : List Oper} {o : Oper} {a : Act} {Q : Exit → Act → World → Prop}
    (hg : Region.wanted o (yielded ops a.tmps) = true) (s x : Operand) (t : TypeId) (hop : o.op = Op.call { callee := Callee.builtin Builtin.append, args := #[s, x], argTypes := #[t, t] })
    (e : TypeId) (i : TypeInfo) (z : Value) (size bytes : Nat) (h1 : P.underlying t = some (.slice e)) (h2 : P.info? e = some i) (h3 : i.zero = some z) (h4 : i.size = size) (h5 : i.bytes = bytes) (h6 : z.cells.size = size) (h7 : 0 < size)
    (ao : Option Addr) (n cap : Nat) (olds : List Value) (hs : a.eval s = .slice ao n cap) (hnone : ao = none → n = 0 ∧ cap = 0) (hlo : olds.length = n * size) (holds : ∀ b, ao = some b → ∀ j u, olds[j]? = some u → w.cell? (b.add j) = some u)
    (ad : Addr) (m c : Nat) (news : List Value) (hx : a.eval x = .slice (some ad) m c) (hn : news.length = m * size) (hc : ∀ j u, news[j]? = some u → w.cell? (ad.add j) = some u) (h1c : ∀ u ∈ news, u.oneCell' = true)
    (hfull : cap < n + m) (b1 : n + m ≤ maxLen) (b2 : (n + m) * bytes ≤ 140737488355328)
    (hK : ∀ v' w', w'.ownsRow w.heap.size e size v' (n + m) (olds ++ news) → w.grownBy w' none → wpList P ops Q rest (a.put o.dst v') w') :
    wpList P ops Q (o :: rest) a w := by
  refine wpList_wanted hg fun K hK' => ?_
  cases ao with
  | some b =>
    obtain ⟨v', w', hrun, r1, r2⟩ := run_append_arg_grows (P := P) w t o.type e i z size bytes h1 h2 h3 h4 h5 h6 h7 b n cap olds hlo (holds b rfl) ad m c news hn hc hfull b1 b2
    unfold Oper.wp
    simp [execOp, hop, resolve, invoke, builtin, hs, hx, hrun, Result.andThen]
    exact hK' _ _ (hK v' w' r1 r2)
  | none =>
    obtain ⟨rfl, rfl⟩ := hnone rfl
    obtain rfl : olds = [] := List.eq_nil_of_length_eq_zero (by simpa using hlo)
    obtain ⟨v', w', hrun, r1, r2, _⟩ := run_append_own (P := P) w w.heap.size t o.type e i z size bytes h1 h2 h3 h4 h5 h6 h7 (.slice none 0 0) 0 [] (World.ownsRow_nil w _ e size) ad m c news hn hc h1c b1 b2 (Nat.le_refl _)
    unfold Oper.wp
    simp [execOp, hop, resolve, invoke, builtin, hs, hx, hrun, Result.andThen]
    exact hK' _ _ (hK v' w' r1 r2)

/-- The place of a number, or -1. -/
theorem indexI_c (zs : List Int) (z : Int) (p : Option Addr) (n cap : Nat) (w : World) (hl : zs.length = n) (hn : n ≤ 1000) (hz : SlI w p zs) :
    Calls Try.prog 103 #[.slice p n cap, .int .i64 z] w fun e w' => ∃ i : Int, e = .returned (.int .i64 i) ∧ decide (0 ≤ i) = zs.contains z ∧ Ex w w' := by
  subst hl
  obtain ⟨r, hr⟩ : ∃ r, zs.contains z = r := ⟨_, rfl⟩
  have hr0 : r = (zs.drop 0).contains z := by simpa using hr.symm
  rw [hr]
  clear hr
  have H0 := Lib.hid hr0
  clear hr0
  go_enter Try.func103, Try.ntmps103
  go_wp2
  go_loop [8] (fun v => ∃ k : Nat, k ≤ zs.length ∧ v = .int .i64 k ∧ r = (zs.drop k).contains z) (fun v => zs.length - (intOf v).toNat)
  case atStart => exact ⟨0, Nat.zero_le _, rfl, H0.out⟩
  case round =>
    obtain ⟨k, hk, rfl, hf⟩ := hrel
    have Hf := Lib.hid hf
    clear hf
    by_cases hlt : k < zs.length
    · obtain ⟨b, o, rfl, hb, h1⟩ := hz k hlt
      clear hz
      have Hd := Lib.hid (List.drop_eq_getElem_cons hlt)
      generalize zs[k] = y at *
      by_cases e : z = y
      · subst e
        go_wp2
        go_ret
        exact ⟨k, rfl, by rw [Hf.out, Hd.out]; simp, by repeat (first | exact Ex.refl _ | refine Ex.ext ?_ _ | refine Ex.alloc ?_ _ | refine Ex.drew ?_)⟩
      · go_wp2
        go_round
        case rel =>
          refine ⟨k + 1, by omega, by go_num, ?_⟩
          rw [Hf.out, Hd.out, List.contains_cons]
          simp [e]
        case measure => simp [intOf]; omega
    · have : k = zs.length := by omega
      subst this
      clear hz
      go_wp2
      go_ret
      exact ⟨-1, rfl, by rw [Hf.out]; simp, by repeat (first | exact Ex.refl _ | refine Ex.ext ?_ _ | refine Ex.alloc ?_ _ | refine Ex.drew ?_)⟩
theorem containsI_c (zs : List Int) (z : Int) (p : Option Addr) (n cap : Nat) (w : World) (hl : zs.length = n) (hn : n ≤ 1000) (hz : SlI w p zs) :
    Calls Try.prog 93 #[.slice p n cap, .int .i64 z] w fun e w' => e = .returned (.bool (zs.contains z)) ∧ Ex w w' := by
  have H := Lib.hid (indexI_c zs z p n cap w hl hn hz)
  clear hz
  go_enter Try.func93, Try.ntmps93
  go_wp2_with (go_at_call 103; refine H.out.mono ?_; rintro e w' ⟨i, rfl, hi, hx⟩; have Hi := Lib.hid hi; clear hi)
  go_ret
  exact ⟨ret_bool (by rw [← Hi.out]), hx⟩

/-- What a visitor keeps: what is older than a place, and blocks of numbers. -/
structure VK (B0 : Nat) (w w' : World) : Prop where
  os : w'.os = w.os
  tape : w'.tape = w.tape
  output : w'.output = w.output
  size : w.heap.size ≤ w'.heap.size
  old : ∀ k, k < B0 → w'.heap[k]? = w.heap[k]?
  ki : KI w w'
theorem VK.refl (B0 : Nat) (w : World) : VK B0 w w := ⟨rfl, rfl, rfl, Nat.le_refl _, fun _ _ => rfl, fun _ _ h => h⟩
theorem VK.trans {B0 : Nat} {a b c : World} (h : VK B0 a b) (k : VK B0 b c) : VK B0 a c :=
  ⟨k.os.trans h.os, k.tape.trans h.tape, k.output.trans h.output, Nat.le_trans h.size k.size, fun i hi => (k.old i hi).trans (h.old i hi), h.ki.trans k.ki⟩
theorem Ex.vk {B0 : Nat} {w w' : World} (h : Ex w w') (hB : B0 ≤ w.heap.size) : VK B0 w w' :=
  ⟨h.below.os, h.below.tape, h.below.output, h.below.size, fun k hk => h.below.block k (by omega), h.ki⟩
theorem VK.below {B0 : Nat} {w w' : World} (h : VK B0 w w') : Below B0 w w' := ⟨h.os, h.tape, h.output, h.size, h.old⟩
/-- A list of numbers as orders hands it on. -/
def LP (w : World) (q : Option Addr) (m cap : Nat) (P : List Nat) : Prop := m = P.length ∧ m ≤ cap ∧ ((q = none ∧ P = [] ∧ cap = 0) ∨ ∃ g A, q = some ⟨g, 0, none⟩ ∧ w.heap[g]? = some (.cells A 3 (0, 0)) ∧ A.toList.take P.length = intVals (natInts P))
theorem LP.ki {w w' : World} {q : Option Addr} {m cap : Nat} {P : List Nat} (h : LP w q m cap P) (k : KI w w') : LP w' q m cap P := by
  obtain ⟨h1, h2, h3 | ⟨g, A, h3, h4, h5⟩⟩ := h
  · exact ⟨h1, h2, Or.inl h3⟩
  · exact ⟨h1, h2, Or.inr ⟨g, A, h3, k _ _ h4, h5⟩⟩
theorem LP.sl {w : World} {q : Option Addr} {m cap : Nat} {P : List Nat} (h : LP w q m cap P) : SlI w q (natInts P) := by
  obtain ⟨h1, h2, ⟨rfl, rfl, rfl⟩ | ⟨g, A, rfl, h4, h5⟩⟩ := h
  · intro i hi; simp [natInts] at hi
  · exact sli_of h4 h5
theorem LP.inP {w : World} {q : Option Addr} {m cap : Nat} {P : List Nat} (h : LP w q m cap P) (hP : P ≠ []) : InP w (.slice q m cap) P := by
  obtain ⟨h1, h2, ⟨rfl, rfl, rfl⟩ | ⟨g, A, rfl, h4, h5⟩⟩ := h
  · exact absurd rfl hP
  · subst h1; exact ⟨g, cap, A, rfl, h2, h4, h5⟩
theorem LP.none {w : World} {m cap : Nat} {P : List Nat} (h : LP w none m cap P) : m = 0 ∧ cap = 0 := by
  obtain ⟨h1, h2, ⟨_, rfl, rfl⟩ | ⟨g, A, h3, _⟩⟩ := h
  · exact ⟨h1, rfl⟩
  · cases h3
/-- Visits in order, until it is enough. -/
def runS {σ : Type} (go : List Nat → σ → Bool) (f : List Nat → σ → σ) : List (List Nat) → σ → σ × Bool
  | [], s => (s, true)
  | P :: L, s => if go P s then runS go f L (f P s) else (f P s, false)
theorem runS_append {σ : Type} (go : List Nat → σ → Bool) (f : List Nat → σ → σ) (M : List (List Nat)) : ∀ (L : List (List Nat)) (s : σ), runS go f (L ++ M) s = if (runS go f L s).2 then runS go f M (runS go f L s).1 else runS go f L s
  | [], s => by simp [runS]
  | P :: L, s => by
    rw [List.cons_append, runS, runS]
    cases go P s
    · simp
    · simp only [if_true]; exact runS_append go f M L _
theorem runS_bd {σ : Type} {go : List Nat → σ → Bool} {f : List Nat → σ → σ} {Bd : σ → Nat} (h : ∀ P s, Bd (f P s) ≤ Bd s + 1) : ∀ (L : List (List Nat)) (s : σ), Bd (runS go f L s).1 ≤ Bd s + L.length
  | [], s => Nat.le_refl _
  | P :: L, s => by
    rw [runS]
    have h1 := h P s
    cases go P s
    · simp; omega
    · have := runS_bd (go := go) h L (f P s)
      simp only [if_true, List.length_cons]
      omega
/-- A visitor of orders. -/
structure Vis (σ : Type) (k : Nat) (lb : Array Value) (n B0 : Nat) (I : σ → World → Prop) (go : List Nat → σ → Bool) (f : List Nat → σ → σ) : Prop where
  ex : ∀ s w w', I s w → Ex w w' → I s w'
  size : ∀ s w, I s w → B0 ≤ w.heap.size
/-- What is still to be visited. -/
def restV (n d k : Nat) (P : List Nat) : List (List Nat) := (((List.range n).drop k).filter fun x => !P.contains x).flatMap fun x => ordV n d (P ++ [x])
theorem restV_all (n d : Nat) (P : List Nat) : restV n d 0 P = ordV n (d + 1) P := by
  show restV n d 0 P = (ext1 n P).flatMap (ordV n d)
  unfold restV ext1
  rw [List.flatMap_map]
  rfl
theorem range_drop {n k : Nat} (hk : k < n) : (List.range n).drop k = k :: (List.range n).drop (k + 1) := by
  rw [List.drop_eq_getElem_cons (by simpa using hk)]
  simp
theorem restV_yes {n d k : Nat} {P : List Nat} (hk : k < n) (h : P.contains k = false) : restV n d k P = ordV n d (P ++ [k]) ++ restV n d (k + 1) P := by
  unfold restV
  rw [range_drop hk, List.filter_cons_of_pos (by simp only [h, Bool.not_false]), List.flatMap_cons]
theorem restV_no {n d k : Nat} {P : List Nat} (hk : k < n) (h : P.contains k = true) : restV n d k P = restV n d (k + 1) P := by
  unfold restV
  rw [range_drop hk, List.filter_cons_of_neg (by simp only [h, Bool.not_true, Bool.false_eq_true, not_false_eq_true])]
theorem restV_end (n d : Nat) (P : List Nat) : restV n d n P = [] := by
  unfold restV
  rw [List.drop_of_length_le (by simp)]
  rfl

theorem mem_rest {n d k : Nat} {P : List Nat} (hk : k < n) (h : P.contains k = false) : ∀ Q ∈ ordV n d (P ++ [k]), Q ∈ ordV n (d + 1) P := fun Q hQ => by
  show Q ∈ (ext1 n P).flatMap (ordV n d)
  refine List.mem_flatMap.2 ⟨P ++ [k], ?_, hQ⟩
  unfold ext1
  exact List.mem_map.2 ⟨k, List.mem_filter.2 ⟨List.mem_range.2 hk, by rw [h]; rfl⟩, rfl⟩
theorem lp_snoc {w : World} {lo g cap m k : Nat} {P : List Nat} (h : RowV 3 1 lo w g cap (m + 1) (intVals (natInts P) ++ [.int .i64 (k : Int)])) (hm : m = P.length) : LP w (some ⟨g, 0, none⟩) (m + 1) cap (P ++ [k]) := by
  obtain ⟨cur, h1, h2, h3, h4⟩ := h.curT
  refine ⟨by simp [hm], h4, Or.inr ⟨g, cur, rfl, h1, ?_⟩⟩
  rw [natInts_snoc, intVals_append]
  rw [Nat.mul_one] at h2
  rw [show (P ++ [k]).length = m + 1 by simp [hm]]
  exact h2
theorem orders1_c {σ : Type} {lb : Array Value} {n B0 : Nat} {I : σ → World → Prop} {go : List Nat → σ → Bool} {f : List Nat → σ → σ} (V : Vis σ 77 lb n B0 I go f) (hn : 1 ≤ n) (hn4 : n ≤ 4) {Bd : σ → Nat} {M : Nat} (hBd : ∀ P s, Bd (f P s) ≤ Bd s + 1)
    (HV : ∀ P s w v, P ∈ ordV n n [] → Bd s < M → InP w v P → I s w → Calls Try.prog 77 (#[v] ++ lb) w fun e w' => e = .returned (.bool (go P s)) ∧ VK B0 w w' ∧ I (f P s) w') : ∀ (d : Nat) (P : List Nat) (q : Option Addr) (m cap : Nat) (s : σ) (w : World), d + P.length = n → (∀ Q ∈ ordV n d P, Q ∈ ordV n n []) → Bd s + (ordV n d P).length ≤ M → LP w q m cap P → I s w →
    Calls Try.prog 76 #[.slice q m cap, .int .i64 n, .func (.func 77) #[] lb] w fun e w' => e = .returned (.bool (runS go f (ordV n d P) s).2) ∧ VK B0 w w' ∧ I (runS go f (ordV n d P) s).1 w' := by
  intro d
  induction d with
  | zero =>
    intro P q m cap s w hd hsub hbd hL hI
    have hPn : P.length = n := by omega
    have hm : m = n := by rw [hL.1]; exact hPn
    have HC := Lib.hid (HV P s w _ (hsub P (by simp [ordV])) (by simp [ordV] at hbd; omega) (hL.inP (fun e => by subst e; simp at hPn; omega)) hI)
    subst hm
    have e1 : runS go f (ordV m 0 P) s = if go P s then (f P s, true) else (f P s, false) := rfl
    rw [e1]
    clear HV V hsub hL hI e1 hd hPn hbd hBd
    cases hg : go P s
    all_goals
      rw [hg] at HC
      go_enter Try.func76, Try.ntmps76
      go_wp2_with (go_at_call 77; refine HC.out.mono ?_; rintro e w1 ⟨rfl, hV1, hI1⟩)
      go_ret
      exact ⟨rfl, hV1, hI1⟩
  | succ d ih =>
    intro P q m cap s w hd hsub hbd hL hI
    have HL := Lib.hid hL
    have HI := Lib.hid hI
    have HVis := Lib.hid V
    have IH := Lib.hid ih
    have Hsub := Lib.hid hsub
    have hm := hL.1
    have hmn : m < n := by omega
    have Hm := Lib.hid hm
    clear hm
    have hne : ((m : Int) == (n : Int)) = false := beq_eq_false_iff_ne.2 (by omega)
    have hcapm := hL.2.1
    have hBw := V.size s w hI
    have HBd := Lib.hid (runS_bd (go := go) hBd)
    have Hbd := Lib.hid hbd
    clear hL hI V ih hsub HV hBd hbd
    go_enter Try.func76, Try.ntmps76
    go_wp2
    go_loopw [16] (fun v wr => ∃ (k : Nat) (s' : σ), k ≤ n ∧ v = .int .i64 k ∧ VK B0 w wr ∧ I s' wr ∧ runS go f (ordV n (d + 1) P) s = runS go f (restV n d k P) s' ∧ Bd s' + (restV n d k P).length ≤ M) (fun v _ => n - (intOf v).toNat)
    case atStart => exact ⟨0, s, Nat.zero_le _, rfl, VK.refl _ _, HI.out, by rw [restV_all], by rw [restV_all]; exact Hbd.out⟩
    case round =>
      obtain ⟨k, s', hk, rfl, hV, hI, hr, hb0⟩ := hrel
      have Hb0 := Lib.hid hb0
      have HV := Lib.hid hV
      have HI' := Lib.hid hI
      have HR := Lib.hid hr
      have hBr := HVis.out.size _ _ hI
      have HLr := Lib.hid (HL.out.ki hV.ki)
      clear hV hI hr hb0
      by_cases hlt : k < n
      · have HC := Lib.hid (fun W (hW : Ex wr W) => containsI_c (natInts P) (k : Int) q m cap W (by simp [Hm.out]) (by omega) (HLr.out.sl.ex hW))
        rw [cont_nat] at HC
        cases hct : P.contains k
        · have hsubk : ∀ Q ∈ ordV n d (P ++ [k]), Q ∈ ordV n n [] := fun Q hQ => Hsub.out Q (mem_rest hlt hct Q hQ)
          have HsubK := Lib.hid hsubk
          have HR2 := Lib.hid (show runS go f (ordV n (d + 1) P) s = if (runS go f (ordV n d (P ++ [k])) s').2 then runS go f (restV n d (k + 1) P) (runS go f (ordV n d (P ++ [k])) s').1 else runS go f (ordV n d (P ++ [k])) s' by rw [HR.out, restV_yes hlt hct, runS_append])
          have Hb1 := Lib.hid (show Bd s' + ((ordV n d (P ++ [k])).length + (restV n d (k + 1) P).length) ≤ M by have := Hb0.out; rw [restV_yes hlt hct, List.length_append] at this; exact this)
          rw [hct] at HC
          clear hct hsubk
          obtain ⟨iz, z0, hiz, hzz, hsize, hby, hzs⟩ := rowInt.info
          have hq : q = none ∨ ∃ b o, q = some ⟨b, o, none⟩ ∧ b ≠ b + 1 := by
            obtain ⟨_, _, ⟨h, _, _⟩ | ⟨g, A, h, _⟩⟩ := HLr.out
            · exact Or.inl h
            · exact Or.inr ⟨g, 0, h, by omega⟩
          have Hold := Lib.hid (show ∀ W, Ex wr W → ∀ b, q = some b → ∀ j u, (intVals (natInts P))[j]? = some u → W.cell? (b.add j) = some u from fun W hW => by
            rcases hq with h | ⟨b, o, h, hb⟩
            · exact slice_olds (B := 0) (HLr.out.sl.ex hW) (Or.inl h)
            · exact slice_olds (B := b + 1) (HLr.out.sl.ex hW) (Or.inr ⟨b, o, h, hb⟩))
          have Hq1 := Lib.hid (show q = none → m = 0 ∧ m = 0 from fun e => ⟨(LP.none (e ▸ HLr.out)).1, (LP.none (e ▸ HLr.out)).1⟩)
          have hd5 : d + 1 + P.length = n := hd
          have HD := Lib.hid hd5
          clear hq hd hd5
          cases hb : (runS go f (ordV n d (P ++ [k])) s').2
          all_goals
            have HB := Lib.hid hb
            clear hb
            go_wp2_with (first | (go_at_call 93; refine (HC.out _ (by exact by repeat (first | exact Ex.refl _ | refine Ex.ext ?_ _ | refine Ex.alloc ?_ _ | refine Ex.drew ?_))).mono ?_; rintro e w2 ⟨rfl, hx2⟩) |
              (at_builtin; refine wp_grows_w _ (by rfl) _ _ 29 rfl 3 iz z0 1 8 rowInt.under hiz hzz hsize hby hzs rowInt.pos q m m (intVals (natInts P)) rfl Hq1.out (by simp [Hm.out]) (Hold.out _ (hx2.trans (by exact by repeat (first | exact Ex.refl _ | refine Ex.ext ?_ _ | refine Ex.alloc ?_ _ | refine Ex.drew ?_)))) ⟨w2.heap.size, 0, none⟩ 1 1 [.int .i64 (k : Int)] rfl rfl (box_one _ _ _) (by intro u hu; simp at hu; subst hu; rfl) (by omega) (by unfold maxLen; omega) (by omega) ?_; intro v' w4 hown hgr; obtain ⟨g4, c4, rfl, hr4⟩ := own_succ hown; have hE4 : Ex wr w4 := hx2.trans (Ex.of_below (((Ex.refl w2).alloc (.cells #[.int .i64 (k : Int)] 3)).below.grown hgr (by simp) (fun k hk => by simp at hk))); have HLP := Lib.hid (lp_snoc (k := k) hr4 Hm.out)) |
              (go_at_call 76; refine (IH.out (P ++ [k]) (some ⟨g4, 0, none⟩) (m + 1) c4 s' _ (by have := HD.out; simp; omega) HsubK.out (by have := Hb1.out; omega) HLP.out (HVis.out.ex _ _ _ HI'.out hE4)).mono ?_; rintro e w5 ⟨rfl, hV5, hI5⟩; rw [HB.out]))
          · go_ret
            rw [HR2.out, HB.out]
            exact ⟨ret_bool (by rw [if_neg (by simp), HB.out]), HV.out.trans ((hE4.vk hBr).trans hV5), hI5⟩
          · go_roundw
            case rel => exact ⟨k + 1, _, by omega, by go_num, HV.out.trans ((hE4.vk hBr).trans hV5), hI5, by rw [HR2.out, HB.out]; rfl, by have := Hb1.out; have := HBd.out (ordV n d (P ++ [k])) s'; omega⟩
            case measure => simp [intOf]; omega
        · have HR2 := Lib.hid (show runS go f (ordV n (d + 1) P) s = runS go f (restV n d (k + 1) P) s' by rw [HR.out, restV_no hlt hct])
          have Hb1 := Lib.hid (show Bd s' + (restV n d (k + 1) P).length ≤ M by have := Hb0.out; rw [restV_no hlt hct] at this; exact this)
          rw [hct] at HC
          clear hct
          go_wp2_with (go_at_call 93; refine (HC.out _ (by exact by repeat (first | exact Ex.refl _ | refine Ex.ext ?_ _ | refine Ex.alloc ?_ _ | refine Ex.drew ?_))).mono ?_; rintro e w2 ⟨rfl, hx2⟩)
          go_roundw
          case rel => exact ⟨k + 1, s', by omega, by go_num, HV.out.trans (hx2.vk hBr), HVis.out.ex _ _ _ HI'.out hx2, HR2.out, Hb1.out⟩
          case measure => simp [intOf]; omega
      · have : k = n := by omega
        subst this
        have HR2 := Lib.hid (show runS go f (ordV k (d + 1) P) s = (s', true) by rw [HR.out, restV_end]; rfl)
        go_wp2
        go_ret
        rw [HR2.out]
        exact ⟨rfl, HV.out, HI'.out⟩
theorem orders2_c {σ : Type} {lb : Array Value} {n B0 : Nat} {I : σ → World → Prop} {go : List Nat → σ → Bool} {f : List Nat → σ → σ} (V : Vis σ 78 lb n B0 I go f) (hn : 1 ≤ n) (hn4 : n ≤ 4) {Bd : σ → Nat} {M : Nat} (hBd : ∀ P s, Bd (f P s) ≤ Bd s + 1)
    (HV : ∀ P s w v, P ∈ ordV n n [] → Bd s < M → InP w v P → I s w → Calls Try.prog 78 (#[v] ++ lb) w fun e w' => e = .returned (.bool (go P s)) ∧ VK B0 w w' ∧ I (f P s) w') : ∀ (d : Nat) (P : List Nat) (q : Option Addr) (m cap : Nat) (s : σ) (w : World), d + P.length = n → (∀ Q ∈ ordV n d P, Q ∈ ordV n n []) → Bd s + (ordV n d P).length ≤ M → LP w q m cap P → I s w →
    Calls Try.prog 76 #[.slice q m cap, .int .i64 n, .func (.func 78) #[] lb] w fun e w' => e = .returned (.bool (runS go f (ordV n d P) s).2) ∧ VK B0 w w' ∧ I (runS go f (ordV n d P) s).1 w' := by
  intro d
  induction d with
  | zero =>
    intro P q m cap s w hd hsub hbd hL hI
    have hPn : P.length = n := by omega
    have hm : m = n := by rw [hL.1]; exact hPn
    have HC := Lib.hid (HV P s w _ (hsub P (by simp [ordV])) (by simp [ordV] at hbd; omega) (hL.inP (fun e => by subst e; simp at hPn; omega)) hI)
    subst hm
    have e1 : runS go f (ordV m 0 P) s = if go P s then (f P s, true) else (f P s, false) := rfl
    rw [e1]
    clear HV V hsub hL hI e1 hd hPn hbd hBd
    cases hg : go P s
    all_goals
      rw [hg] at HC
      go_enter Try.func76, Try.ntmps76
      go_wp2_with (go_at_call 78; refine HC.out.mono ?_; rintro e w1 ⟨rfl, hV1, hI1⟩)
      go_ret
      exact ⟨rfl, hV1, hI1⟩
  | succ d ih =>
    intro P q m cap s w hd hsub hbd hL hI
    have HL := Lib.hid hL
    have HI := Lib.hid hI
    have HVis := Lib.hid V
    have IH := Lib.hid ih
    have Hsub := Lib.hid hsub
    have hm := hL.1
    have hmn : m < n := by omega
    have Hm := Lib.hid hm
    clear hm
    have hne : ((m : Int) == (n : Int)) = false := beq_eq_false_iff_ne.2 (by omega)
    have hcapm := hL.2.1
    have hBw := V.size s w hI
    have HBd := Lib.hid (runS_bd (go := go) hBd)
    have Hbd := Lib.hid hbd
    clear hL hI V ih hsub HV hBd hbd
    go_enter Try.func76, Try.ntmps76
    go_wp2
    go_loopw [16] (fun v wr => ∃ (k : Nat) (s' : σ), k ≤ n ∧ v = .int .i64 k ∧ VK B0 w wr ∧ I s' wr ∧ runS go f (ordV n (d + 1) P) s = runS go f (restV n d k P) s' ∧ Bd s' + (restV n d k P).length ≤ M) (fun v _ => n - (intOf v).toNat)
    case atStart => exact ⟨0, s, Nat.zero_le _, rfl, VK.refl _ _, HI.out, by rw [restV_all], by rw [restV_all]; exact Hbd.out⟩
    case round =>
      obtain ⟨k, s', hk, rfl, hV, hI, hr, hb0⟩ := hrel
      have Hb0 := Lib.hid hb0
      have HV := Lib.hid hV
      have HI' := Lib.hid hI
      have HR := Lib.hid hr
      have hBr := HVis.out.size _ _ hI
      have HLr := Lib.hid (HL.out.ki hV.ki)
      clear hV hI hr hb0
      by_cases hlt : k < n
      · have HC := Lib.hid (fun W (hW : Ex wr W) => containsI_c (natInts P) (k : Int) q m cap W (by simp [Hm.out]) (by omega) (HLr.out.sl.ex hW))
        rw [cont_nat] at HC
        cases hct : P.contains k
        · have hsubk : ∀ Q ∈ ordV n d (P ++ [k]), Q ∈ ordV n n [] := fun Q hQ => Hsub.out Q (mem_rest hlt hct Q hQ)
          have HsubK := Lib.hid hsubk
          have HR2 := Lib.hid (show runS go f (ordV n (d + 1) P) s = if (runS go f (ordV n d (P ++ [k])) s').2 then runS go f (restV n d (k + 1) P) (runS go f (ordV n d (P ++ [k])) s').1 else runS go f (ordV n d (P ++ [k])) s' by rw [HR.out, restV_yes hlt hct, runS_append])
          have Hb1 := Lib.hid (show Bd s' + ((ordV n d (P ++ [k])).length + (restV n d (k + 1) P).length) ≤ M by have := Hb0.out; rw [restV_yes hlt hct, List.length_append] at this; exact this)
          rw [hct] at HC
          clear hct hsubk
          obtain ⟨iz, z0, hiz, hzz, hsize, hby, hzs⟩ := rowInt.info
          have hq : q = none ∨ ∃ b o, q = some ⟨b, o, none⟩ ∧ b ≠ b + 1 := by
            obtain ⟨_, _, ⟨h, _, _⟩ | ⟨g, A, h, _⟩⟩ := HLr.out
            · exact Or.inl h
            · exact Or.inr ⟨g, 0, h, by omega⟩
          have Hold := Lib.hid (show ∀ W, Ex wr W → ∀ b, q = some b → ∀ j u, (intVals (natInts P))[j]? = some u → W.cell? (b.add j) = some u from fun W hW => by
            rcases hq with h | ⟨b, o, h, hb⟩
            · exact slice_olds (B := 0) (HLr.out.sl.ex hW) (Or.inl h)
            · exact slice_olds (B := b + 1) (HLr.out.sl.ex hW) (Or.inr ⟨b, o, h, hb⟩))
          have Hq1 := Lib.hid (show q = none → m = 0 ∧ m = 0 from fun e => ⟨(LP.none (e ▸ HLr.out)).1, (LP.none (e ▸ HLr.out)).1⟩)
          have hd5 : d + 1 + P.length = n := hd
          have HD := Lib.hid hd5
          clear hq hd hd5
          cases hb : (runS go f (ordV n d (P ++ [k])) s').2
          all_goals
            have HB := Lib.hid hb
            clear hb
            go_wp2_with (first | (go_at_call 93; refine (HC.out _ (by exact by repeat (first | exact Ex.refl _ | refine Ex.ext ?_ _ | refine Ex.alloc ?_ _ | refine Ex.drew ?_))).mono ?_; rintro e w2 ⟨rfl, hx2⟩) |
              (at_builtin; refine wp_grows_w _ (by rfl) _ _ 29 rfl 3 iz z0 1 8 rowInt.under hiz hzz hsize hby hzs rowInt.pos q m m (intVals (natInts P)) rfl Hq1.out (by simp [Hm.out]) (Hold.out _ (hx2.trans (by exact by repeat (first | exact Ex.refl _ | refine Ex.ext ?_ _ | refine Ex.alloc ?_ _ | refine Ex.drew ?_)))) ⟨w2.heap.size, 0, none⟩ 1 1 [.int .i64 (k : Int)] rfl rfl (box_one _ _ _) (by intro u hu; simp at hu; subst hu; rfl) (by omega) (by unfold maxLen; omega) (by omega) ?_; intro v' w4 hown hgr; obtain ⟨g4, c4, rfl, hr4⟩ := own_succ hown; have hE4 : Ex wr w4 := hx2.trans (Ex.of_below (((Ex.refl w2).alloc (.cells #[.int .i64 (k : Int)] 3)).below.grown hgr (by simp) (fun k hk => by simp at hk))); have HLP := Lib.hid (lp_snoc (k := k) hr4 Hm.out)) |
              (go_at_call 76; refine (IH.out (P ++ [k]) (some ⟨g4, 0, none⟩) (m + 1) c4 s' _ (by have := HD.out; simp; omega) HsubK.out (by have := Hb1.out; omega) HLP.out (HVis.out.ex _ _ _ HI'.out hE4)).mono ?_; rintro e w5 ⟨rfl, hV5, hI5⟩; rw [HB.out]))
          · go_ret
            rw [HR2.out, HB.out]
            exact ⟨ret_bool (by rw [if_neg (by simp), HB.out]), HV.out.trans ((hE4.vk hBr).trans hV5), hI5⟩
          · go_roundw
            case rel => exact ⟨k + 1, _, by omega, by go_num, HV.out.trans ((hE4.vk hBr).trans hV5), hI5, by rw [HR2.out, HB.out]; rfl, by have := Hb1.out; have := HBd.out (ordV n d (P ++ [k])) s'; omega⟩
            case measure => simp [intOf]; omega
        · have HR2 := Lib.hid (show runS go f (ordV n (d + 1) P) s = runS go f (restV n d (k + 1) P) s' by rw [HR.out, restV_no hlt hct])
          have Hb1 := Lib.hid (show Bd s' + (restV n d (k + 1) P).length ≤ M by have := Hb0.out; rw [restV_no hlt hct] at this; exact this)
          rw [hct] at HC
          clear hct
          go_wp2_with (go_at_call 93; refine (HC.out _ (by exact by repeat (first | exact Ex.refl _ | refine Ex.ext ?_ _ | refine Ex.alloc ?_ _ | refine Ex.drew ?_))).mono ?_; rintro e w2 ⟨rfl, hx2⟩)
          go_roundw
          case rel => exact ⟨k + 1, s', by omega, by go_num, HV.out.trans (hx2.vk hBr), HVis.out.ex _ _ _ HI'.out hx2, HR2.out, Hb1.out⟩
          case measure => simp [intOf]; omega
      · have : k = n := by omega
        subst this
        have HR2 := Lib.hid (show runS go f (ordV k (d + 1) P) s = (s', true) by rw [HR.out, restV_end]; rfl)
        go_wp2
        go_ret
        rw [HR2.out]
        exact ⟨rfl, HV.out, HI'.out⟩
end Go.Proofs.Ytkmnnnhnajnefaa
