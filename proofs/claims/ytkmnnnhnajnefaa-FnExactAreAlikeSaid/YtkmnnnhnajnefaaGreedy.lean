/- The walks of GreedyCap, and of the law on it. -/
import Derived.Test.YtkmnnnhnajnefaaCapC
import Derived.Test.YtkmnnnhnajnefaaPile2
import Derived.Deep.RegionHeld3
namespace Go.Proofs.Ytkmnnnhnajnefaa
set_option linter.unusedSimpArgs false
set_option linter.unusedVariables false
set_option maxHeartbeats 1000000
set_option maxRecDepth 100000
open Go.RowKit

/-- append to a row of the call's own at a step of a region that draws its order. -/
theorem step_app {P : Program} {T E size bytes lo g cap n : Nat} {xs : List Value} (hT : RowT P T E size bytes) {W : World} {ops : Array Oper} {o : Oper} {a : Act} {K : Act → World → Prop} {Q : Exit → Act → World → Prop} {Ep : Prop}
    (hgd : o.guard = none) (s x : Operand) (ho : o.op = .call { callee := .builtin .append, args := #[s, x], argTypes := #[T, T] })
    (hs : a.eval s = .slice (some ⟨g, 0, none⟩) n cap) (hown : RowV E size lo W g cap n xs)
    (blk m c : Nat) (news : List Value) (hx : a.eval x = .slice (some ⟨blk, 0, none⟩) m c) (hl : news.length = m * size) (hnews : ∀ j u, news[j]? = some u → W.cell? ⟨blk, j, none⟩ = some u) (h1 : ∀ u ∈ news, u.oneCell' = true)
    (hm : 0 < m) (h63 : n + m ≤ maxLen) (hbytes : (n + m) * bytes ≤ 140737488355328)
    (h : ∀ g' cap' w', RowV E size lo w' g' cap' (n + m) (xs ++ news) → Keeps g W w' → (g' = g ∨ g' = W.heap.size) → K (a.put o.dst (.slice (some ⟨g', 0, none⟩) (n + m) cap')) w') :
    if Region.wanted o (yielded ops a.tmps) = true then Oper.wp P o a W K Q else Ep := by
  obtain ⟨i, z, hi, hz, hsize, hby, hzs⟩ := hT.info
  have hblk := hown.blk
  refine step_append_lies W hgd s x T ho lo E i z size bytes hT.under hi hz hsize hby hzs hT.pos _ n xs hs hown ⟨blk, 0, none⟩ m c news hx hl (fun j u hj => ?_) h1 hm h63 hbytes ?_ W.heap.size rfl ?_
  · have : (⟨blk, 0, none⟩ : Addr).add j = ⟨blk, j, none⟩ := by unfold Addr.add; split <;> simp_all
    rw [this]; exact hnews j u hj
  · omega
  · intro g' cap' w' hown' hg hor hlt
    refine h g' cap' w' hown' (Keeps.of_grown hg rfl) ?_
    rcases hor with h1 | h1
    · left; simpa [Value.ownBlock] using h1.symm
    · exact Or.inr h1
theorem Keeps.cell {g b i : Nat} {w w' : World} {v : Value} (k : Keeps g w w') (hb : b ≠ g) (h : w.cell? ⟨b, i, none⟩ = some v) : w'.cell? ⟨b, i, none⟩ = some v := by
  have hlt := World.block_lt_of_cell? w _ h
  simp only [World.cell?] at h ⊢
  rw [k.block b hlt hb]; exact h
theorem Keeps.four {g b : Nat} {w w' : World} {x y z t : Value} (k : Keeps g w w') (hb : b ≠ g) (h : w.cell? ⟨b, 0, none⟩ = some x ∧ w.cell? ⟨b, 1, none⟩ = some y ∧ w.cell? ⟨b, 2, none⟩ = some z ∧ w.cell? ⟨b, 3, none⟩ = some t) :
    w'.cell? ⟨b, 0, none⟩ = some x ∧ w'.cell? ⟨b, 1, none⟩ = some y ∧ w'.cell? ⟨b, 2, none⟩ = some z ∧ w'.cell? ⟨b, 3, none⟩ = some t :=
  ⟨k.cell hb h.1, k.cell hb h.2.1, k.cell hb h.2.2.1, k.cell hb h.2.2.2⟩
theorem cells1 {W : World} {b : Nat} {x : Value} (h : W.cell? ⟨b, 0, none⟩ = some x) : ∀ j u, [x][j]? = some u → W.cell? ⟨b, j, none⟩ = some u := by
  intro j u hu
  match j, hu with
  | 0, hu => simp at hu; subst hu; exact h
theorem cells4 {W : World} {b : Nat} {x y z t : Value} (h0 : W.cell? ⟨b, 0, none⟩ = some x) (h1 : W.cell? ⟨b, 1, none⟩ = some y) (h2 : W.cell? ⟨b, 2, none⟩ = some z) (h3 : W.cell? ⟨b, 3, none⟩ = some t) :
    ∀ j u, [x, y, z, t][j]? = some u → W.cell? ⟨b, j, none⟩ = some u := by
  intro j u hu
  match j, hu with
  | 0, hu => simp at hu; subst hu; exact h0
  | 1, hu => simp at hu; subst hu; exact h1
  | 2, hu => simp at hu; subst hu; exact h2
  | 3, hu => simp at hu; subst hu; exact h3

theorem alloc_sz_of' {w w' : World} {o : Obj} (hx : Ex (w.alloc o) w') : (w.alloc o).heap.size = w.heap.size + 1 := by simp
theorem Keeps.cellsK {g b : Nat} {w w' : World} {news : List Value} (k : Keeps g w w') (hb : b ≠ g) (h : ∀ j u, news[j]? = some u → w.cell? ⟨b, j, none⟩ = some u) : ∀ j u, news[j]? = some u → w'.cell? ⟨b, j, none⟩ = some u :=
  fun j u hu => k.cell hb (h j u hu)
def noCard : C4 := ⟨0, 0, 0, 0⟩
/-- The cards at some places. -/
def pick (cs : List C4) (P : List Nat) : List C4 := P.map fun p => cs.getD p noCard
@[simp] theorem pick_length (cs : List C4) (P : List Nat) : (pick cs P).length = P.length := by simp [pick]
theorem pick_snoc {cs : List C4} (P : List Nat) {k : Nat} (h : k < cs.length) : pick cs (P ++ [k]) = pick cs P ++ [cs[k]] := by
  simp [pick, h]
theorem pick_ok {cs : List C4} {P : List Nat} (hP : ∀ p ∈ P, p < cs.length) (hok : ∀ z ∈ cs, Ok z) : ∀ z ∈ pick cs P, Ok z := by
  intro z hz
  simp only [pick, List.mem_map] at hz
  obtain ⟨p, hp, rfl⟩ := hz
  have := hP p hp
  rw [List.getD_eq_getElem?_getD, List.getElem?_eq_getElem this]
  exact hok _ (List.getElem_mem this)
def natInts (P : List Nat) : List Int := P.map fun (p : Nat) => (p : Int)
@[simp] theorem natInts_length (P : List Nat) : (natInts P).length = P.length := by simp [natInts]
theorem natInts_append (P R : List Nat) : natInts (P ++ R) = natInts P ++ natInts R := by simp [natInts]
theorem l2Through_r {T : List C4} {c : C4} {p : Option Addr} {n cap r : Nat} {w : World} (hl : T.length = n) (hr : through T c = r) (hn : n ≤ 1000) (hok : ∀ z ∈ T, Ok z) (hz : Sl w p T) :
    Calls Try.prog 62 #[.slice p n cap, .agg #[.int .i64 c.a, .int .i64 c.b, .int .i64 c.c, .int .i64 c.d]] w fun e w' => e = .returned (.int .i64 r) ∧ Ex w w' := by
  subst hl; subst hr; exact l2Through_c T c p cap w hn hok hz
def gFrom (T : List C4) : List C4 → Nat → List Nat
  | [], _ => []
  | c :: cs, k => if through T c = 0 then k :: gFrom (T ++ [c]) cs (k + 1) else gFrom T cs (k + 1)
theorem gFrom_len (cs : List C4) : ∀ T k, (gFrom T cs k).length ≤ cs.length := by
  induction cs with
  | nil => intro T k; simp [gFrom]
  | cons c cs ih =>
    intro T k
    unfold gFrom
    split
    · have := ih (T ++ [c]) (k + 1); simp; omega
    · have := ih T (k + 1); simp; omega
def gR (cs : List C4) : List Nat := if handB cs then gFrom [] cs 0 else []
theorem gR_len (cs : List C4) : (gR cs).length ≤ 27 := by
  unfold gR; split
  · rename_i h; have h1 := gFrom_len cs [] 0; have h2 := (handB_ok h).2; omega
  · simp
def giR (cs : List C4) : List Int := natInts (gR cs)
theorem giR_len (cs : List C4) : (giR cs).length ≤ 27 := by rw [giR, natInts_length]; exact gR_len cs
theorem natInts_row {E size lo hi cap : Nat} {w : World} {p : Option Addr} {P : List Nat} (h : RowI lo hi w p cap (natInts P)) : RowI lo hi w p cap (natInts P) := h

theorem l3Picked_c (cs : List C4) (P : List Nat) (p q : Option Addr) (cap cap2 : Nat) (w : World) (hn : cs.length ≤ 1000000000) (hm : P.length ≤ 1000000) (hP : ∀ x ∈ P, x < cs.length) (hz : Sl w p cs) (hy : SlI w q (natInts P)) :
    Calls Try.prog 63 #[.slice p cs.length cap, .slice q P.length cap2] w fun e w' => ∃ g cap', e = .returned (.slice (some ⟨g, 0, none⟩) P.length cap') ∧ Ex w w' ∧ RowV 36 4 w.heap.size w' g cap' P.length (cellsOf (pick cs P)) := by
  have Hz := Lib.hid hz
  have Hy := Lib.hid hy
  have HP := Lib.hid hP
  clear hz hy hP
  go_enter Try.func63, Try.ntmps63
  go_wp2
  go_loopw [5, 6] (fun u i wr => ∃ (k g cap' : Nat), k ≤ P.length ∧ i = .int .i64 k ∧ u = .slice (some ⟨g, 0, none⟩) k cap' ∧ Ex w wr ∧
    RowV 36 4 w.heap.size wr g cap' k (cellsOf (pick cs (P.take k)))) (fun _ i _ => P.length - (intOf i).toNat)
  case atStart => exact ⟨0, w.heap.size, 0, Nat.zero_le _, rfl, rfl, by repeat (first | exact Ex.refl _ | refine Ex.ext ?_ _ | refine Ex.alloc ?_ _ | refine Ex.drew ?_), RowV.start _ _ _⟩
  case round =>
    obtain ⟨k, g, cap', hk, rfl, rfl, hE, hrow⟩ := hrel
    have HE := Lib.hid hE
    have HR := Lib.hid hrow
    clear hE hrow
    by_cases hlt : k < P.length
    · obtain ⟨b2, o2, rfl, hb2, e1⟩ := (Hy.out.ex HE.out) k (by simpa using hlt)
      have hpl := HP.out _ (List.getElem_mem hlt)
      have Hs := Lib.hid (show pick cs (P.take (k + 1)) = pick cs (P.take k) ++ [cs[P[k]]] by rw [List.take_succ_eq_append_getElem hlt, pick_snoc _ hpl])
      have hel : (natInts P)[k]'(by simpa using hlt) = ((P[k] : Nat) : Int) := by simp [natInts]
      rw [hel] at e1
      clear hel
      obtain ⟨b, o, rfl, hb, h1, h2, h3, h4⟩ := (Hz.out.ex HE.out) P[k] hpl
      generalize P[k] = pk at *
      generalize cs[pk] = z at *
      have hpl' : (pk : Int) < (cs.length : Int) := by omega
      go_wp2_with (at_builtin; refine wp_app rowC4 (nW := _) (by simp [go_sem]) rfl _ _ rfl rfl (HR.out.ex (by exact by repeat (first | exact Ex.refl _ | refine Ex.ext ?_ _ | refine Ex.alloc ?_ _ | refine Ex.drew ?_))) 1 1 [.int .i64 z.a, .int .i64 z.b, .int .i64 z.c, .int .i64 z.d] rfl rfl (one4 _ _ _ _) (by omega) ?c2 ?c3 ?_; (case c2 => (unfold maxLen; omega)); (case c3 => omega); intro g' cap'' wq hrow' hK hg')
      go_roundw
      case rel =>
        (try ((repeat apply Exists.intro); refine ⟨?_, rfl⟩))
        have hgb := HR.out.blk
        refine ⟨k + 1, g', cap'', by omega, by go_num, rfl, Keeps.ex (HE.out.trans (by exact by repeat (first | exact Ex.refl _ | refine Ex.ext ?_ _ | refine Ex.alloc ?_ _ | refine Ex.drew ?_))) hK (by omega), ?_⟩
        rw [Hs.out, cellsOf_append]; exact hrow'
      case measure => simp [intOf]; omega
    · have : k = P.length := by omega
      subst this
      go_wp2
      go_ret
      exact ⟨g, cap', rfl, HE.out, by have := HR.out; rw [List.take_length] at this; exact this⟩

theorem l3Picked_n {cs : List C4} {P : List Nat} {n : Nat} {p q : Option Addr} {cap cap2 : Nat} {w : World} (hl : P.length = n) (hn : cs.length ≤ 1000000000) (hm : n ≤ 1000000) (hP : ∀ x ∈ P, x < cs.length) (hz : Sl w p cs) (hy : SlI w q (natInts P)) :
    Calls Try.prog 63 #[.slice p cs.length cap, .slice q n cap2] w fun e w' => ∃ g cap', e = .returned (.slice (some ⟨g, 0, none⟩) n cap') ∧ Ex w w' ∧ RowV 36 4 w.heap.size w' g cap' n (cellsOf (pick cs P)) := by
  subst hl; exact l3Picked_c cs P p q cap cap2 w hn hm hP hz hy

end Go.Proofs.Ytkmnnnhnajnefaa
