/- Copies of slices of cards: l2Own, slices.Clone. -/
import Derived.Test.YtkmnnnhnajnefaaPile2
import Derived.Lib.BufferMore
namespace Go.Proofs.Ytkmnnnhnajnefaa
set_option linter.unusedSimpArgs false
set_option linter.unusedVariables false
set_option maxHeartbeats 1000000
set_option maxRecDepth 100000
open Go.RowKit

theorem own_form {B E size n : Nat} {v : Value} {xs : List Value} {w : World} (h : w.ownsRow B E size v n xs) : ∃ p cap, v = .slice p n cap ∧ ∀ a, p = some a → a.block < w.heap.size := by
  rcases h.2 with ⟨h1, h2⟩ | ⟨g, cap, cur, h1, h2, h3, _⟩
  · exact ⟨none, 0, by rw [h1, h2], fun a e => by cases e⟩
  · exact ⟨some ⟨g, 0, none⟩, cap, h1, fun a e => by simp at e; subst e; exact (Array.getElem?_eq_some_iff.1 h3).1⟩

theorem cellsOf_one (cs : List C4) : ∀ u ∈ cellsOf cs, u.oneCell' = true := by
  induction cs with
  | nil => intro u hu; simp [cellsOf] at hu
  | cons c cs ih =>
    intro u hu
    simp only [cellsOf, List.mem_cons] at hu
    rcases hu with rfl | rfl | rfl | rfl | hu
    · rfl
    · rfl
    · rfl
    · rfl
    · exact ih u hu

/-- A slice of cards reads as its cells. -/
theorem Sl.cells {w : World} {b o : Nat} {cs : List C4} (h : Sl w (some ⟨b, o, none⟩) cs) : ∀ j u, (cellsOf cs)[j]? = some u → w.cell? ((⟨b, o, none⟩ : Addr).add j) = some u := by
  intro j u hu
  rw [show (⟨b, o, none⟩ : Addr).add j = ⟨b, o + j, none⟩ by unfold Addr.add; split <;> simp_all]
  have hj : j < cs.length * 4 := by
    have := (List.getElem?_eq_some_iff.1 hu).1
    rwa [cellsOf_length] at this
  obtain ⟨b', o', e, hb, h1, h2, h3, h4⟩ := h (j / 4) (by omega)
  simp at e
  obtain ⟨rfl, rfl⟩ := e
  obtain ⟨g1, g2, g3, g4⟩ := cellsOf_get cs (j / 4) (by omega)
  have hr : j = j / 4 * 4 ∨ j = j / 4 * 4 + 1 ∨ j = j / 4 * 4 + 2 ∨ j = j / 4 * 4 + 3 := by omega
  rcases hr with hr | hr | hr | hr
  all_goals rw [hr] at hu ⊢
  · rw [g1] at hu; rw [h1, ← hu]
  · rw [g2] at hu; rw [← Nat.add_assoc, h2, ← hu]
  · rw [g3] at hu; rw [← Nat.add_assoc, h3, ← hu]
  · rw [g4] at hu; rw [← Nat.add_assoc, h4, ← hu]

/-- append of a slice of cards to a row of the call's own. -/
theorem wp_apps {W0 W : World} {B : Nat} (hB : B = W0.heap.size) (hE : Ex W0 W)
    {ops : Array Oper} {rest : List Oper} {o : Oper} {a : Act} {Q : Exit → Act → World → Prop} (hgd : o.guard = none) (s x : Operand)
    (ho : o.op = .call { callee := .builtin .append, args := #[s, x], argTypes := #[22, 22] })
    (v : Value) (n : Nat) (xs : List C4) (hs : a.eval s = v) (hown : W.ownsRow B 36 4 v n (cellsOf xs))
    (b off c : Nat) (news : List C4) (hx : a.eval x = .slice (some ⟨b, off, none⟩) news.length c) (hz : Sl W (some ⟨b, off, none⟩) news)
    (h63 : n + news.length ≤ 1000000000000)
    (h : ∀ p cap w', w'.ownsRow B 36 4 (.slice p (n + news.length) cap) (n + news.length) (cellsOf (xs ++ news)) → (∀ a, p = some a → a.block < w'.heap.size) → Ex W0 w' → wpList Try.prog ops Q rest (a.put o.dst (.slice p (n + news.length) cap)) w') :
    wpList Try.prog ops Q (o :: rest) a W := by
  subst hB
  obtain ⟨i, z, hi, hzz, hsize, hby, hzs⟩ := rowC4.info
  refine wpList_append_own _ hgd s x 22 ho W0.heap.size 36 i z 4 32 rowC4.under hi hzz hsize hby hzs rowC4.pos v n (cellsOf xs) hs hown ⟨b, off, none⟩ news.length c (cellsOf news) hx (cellsOf_length news) hz.cells (cellsOf_one news) (by unfold maxLen; omega) (by omega) hE.below.size (fun v' w' hown' hg _ => ?_)
  have hbel : Below W0.heap.size W0 w' := hE.below.grown hg hE.below.size (fun k hk => (hown.lt k hk).1)
  obtain ⟨p, cap, rfl, hp⟩ := own_form hown'
  rw [← cellsOf_append] at hown'
  exact h p cap w' hown' hp (Ex.of_below hbel)

theorem l2Own_c (cs : List C4) (b o cap : Nat) (w : World) (hn : cs.length ≤ 1000000000) (hz : Sl w (some ⟨b, o, none⟩) cs) :
    Calls Try.prog 108 #[.slice (some ⟨b, o, none⟩) cs.length cap] w fun e w' => ∃ p cap', e = .returned (.slice p cs.length cap') ∧ Ex w w' ∧ Row w.heap.size w'.heap.size w' p cap' cs := by
  have Hz := Lib.hid hz
  clear hz
  have own0 := own_empty w 36 4
  go_enter Try.func108, Try.ntmps108
  go_wp2_with (at_builtin; refine wp_apps (W0 := w) rfl (by repeat (first | exact Ex.refl _ | refine Ex.ext ?_ _ | refine Ex.alloc ?_ _ | refine Ex.drew ?_)) (by simp [go_sem]) _ _ rfl _ 0 [] rfl own0 b o cap cs rfl (Hz.out.ex (by repeat (first | exact Ex.refl _ | refine Ex.ext ?_ _ | refine Ex.alloc ?_ _ | refine Ex.drew ?_))) (by omega) ?_; intro p cap' w' hown hp hE; simp only [Nat.zero_add, List.nil_append] at hown ⊢)
  go_ret
  exact ⟨p, cap', rfl, hE, ⟨hown, hp⟩⟩

end Go.Proofs.Ytkmnnnhnajnefaa
