/- The walks of GreedyCap, and of the law on it. -/
import Derived.Test.YtdnnjhgkcchcaaaCapC
import Derived.Test.YtdnnjhgkcchcaaaPile2
import Derived.Deep.RegionHeld3
namespace Go.Proofs.Ytdnnjhgkcchcaaa
set_option linter.unusedSimpArgs false
set_option linter.unusedVariables false
set_option maxHeartbeats 1000000
set_option maxRecDepth 100000
open Go.RowKit

/-- append to a row of the call's own at a step of a region that draws its order. -/
theorem step_app {P : Program} {T E size bytes lo g cap n : Nat} {xs : List Value} (hT : RowT P T E size bytes) {W : World} {ops : Array Oper} {o : Oper} {a : Act} {K : Act → World → Prop} {Q : Exit → Act → World → Prop} {Ep : Prop}
    (hgd : o.guard = none) (s x : Operand) (ho : o.op = .call { callee := .builtin .append, args := #[s, x], argTypes := #[T, T] })
    (hs : a.eval s = .slice (some ⟨g, 0, none⟩) n cap) (hown : RowV E size lo W g cap n xs)
    (blk m c : Nat) (news : List Value) (hx : a.eval x = .slice (some ⟨blk, 0, none⟩) m c) (hl : news.length = m * size) (hnews : ∀ j u, news[j]? = some u → W.cell? ⟨blk, j, none⟩ = some u) (h1 : ∀ u ∈ news, u.oneCell' = true)
    (hm : 0 < m) (h63 : n + m ≤ maxLen) (hbytes : (n + m) * bytes ≤ 140737488355328)
    (h : ∀ g' cap' w', RowV E size lo w' g' cap' (n + m) (xs ++ news) → Keeps g W w' → (g' = g ∨ g' = W.heap.size) → K (a.put o.dst (.slice (some ⟨g', 0, none⟩) (n + m) cap')) w') :
    if Region.wanted o (yielded ops a.tmps) = true then Oper.wp P o a W K Q else Ep := by
  obtain ⟨i, z, hi, hz, hsize, hby, hzs⟩ := hT.info
  have hblk := hown.blk
  refine step_append_lies W hgd s x T ho lo E i z size bytes hT.under hi hz hsize hby hzs hT.pos _ n xs hs hown ⟨blk, 0, none⟩ m c news hx hl (fun j u hj => ?_) h1 hm h63 hbytes ?_ W.heap.size rfl ?_
  · have : (⟨blk, 0, none⟩ : Addr).add j = ⟨blk, j, none⟩ := by unfold Addr.add; split <;> simp_all
    rw [this]; exact hnews j u hj
  · omega
  · intro g' cap' w' hown' hg hor hlt
    refine h g' cap' w' hown' (Keeps.of_grown hg rfl) ?_
    rcases hor with h1 | h1
    · left; simpa [Value.ownBlock] using h1.symm
    · exact Or.inr h1
theorem Keeps.cell {g b i : Nat} {w w' : World} {v : Value} (k : Keeps g w w') (hb : b ≠ g) (h : w.cell? ⟨b, i, none⟩ = some v) : w'.cell? ⟨b, i, none⟩ = some v := by
  have hlt := World.block_lt_of_cell? w _ h
  simp only [World.cell?] at h ⊢
  rw [k.block b hlt hb]; exact h
theorem Keeps.four {g b : Nat} {w w' : World} {x y z t : Value} (k : Keeps g w w') (hb : b ≠ g) (h : w.cell? ⟨b, 0, none⟩ = some x ∧ w.cell? ⟨b, 1, none⟩ = some y ∧ w.cell? ⟨b, 2, none⟩ = some z ∧ w.cell? ⟨b, 3, none⟩ = some t) :
    w'.cell? ⟨b, 0, none⟩ = some x ∧ w'.cell? ⟨b, 1, none⟩ = some y ∧ w'.cell? ⟨b, 2, none⟩ = some z ∧ w'.cell? ⟨b, 3, none⟩ = some t :=
  ⟨k.cell hb h.1, k.cell hb h.2.1, k.cell hb h.2.2.1, k.cell hb h.2.2.2⟩
theorem cells1 {W : World} {b : Nat} {x : Value} (h : W.cell? ⟨b, 0, none⟩ = some x) : ∀ j u, [x][j]? = some u → W.cell? ⟨b, j, none⟩ = some u := by
  intro j u hu
  match j, hu with
  | 0, hu => simp at hu; subst hu; exact h
theorem cells4 {W : World} {b : Nat} {x y z t : Value} (h0 : W.cell? ⟨b, 0, none⟩ = some x) (h1 : W.cell? ⟨b, 1, none⟩ = some y) (h2 : W.cell? ⟨b, 2, none⟩ = some z) (h3 : W.cell? ⟨b, 3, none⟩ = some t) :
    ∀ j u, [x, y, z, t][j]? = some u → W.cell? ⟨b, j, none⟩ = some u := by
  intro j u hu
  match j, hu with
  | 0, hu => simp at hu; subst hu; exact h0
  | 1, hu => simp at hu; subst hu; exact h1
  | 2, hu => simp at hu; subst hu; exact h2
  | 3, hu => simp at hu; subst hu; exact h3

theorem alloc_sz_of' {w w' : World} {o : Obj} (hx : Ex (w.alloc o) w') : (w.alloc o).heap.size = w.heap.size + 1 := by simp
theorem Keeps.cellsK {g b : Nat} {w w' : World} {news : List Value} (k : Keeps g w w') (hb : b ≠ g) (h : ∀ j u, news[j]? = some u → w.cell? ⟨b, j, none⟩ = some u) : ∀ j u, news[j]? = some u → w'.cell? ⟨b, j, none⟩ = some u :=
  fun j u hu => k.cell hb (h j u hu)
def noCard : C4 := ⟨0, 0, 0, 0⟩
/-- The cards at some places. -/
def pick (cs : List C4) (P : List Nat) : List C4 := P.map fun p => cs.getD p noCard
@[simp] theorem pick_length (cs : List C4) (P : List Nat) : (pick cs P).length = P.length := by simp [pick]
theorem pick_snoc {cs : List C4} (P : List Nat) {k : Nat} (h : k < cs.length) : pick cs (P ++ [k]) = pick cs P ++ [cs[k]] := by
  simp [pick, h]
theorem pick_ok {cs : List C4} {P : List Nat} (hP : ∀ p ∈ P, p < cs.length) (hok : ∀ z ∈ cs, Ok z) : ∀ z ∈ pick cs P, Ok z := by
  intro z hz
  simp only [pick, List.mem_map] at hz
  obtain ⟨p, hp, rfl⟩ := hz
  have := hP p hp
  rw [List.getD_eq_getElem?_getD, List.getElem?_eq_getElem this]
  exact hok _ (List.getElem_mem this)
def natInts (P : List Nat) : List Int := P.map fun (p : Nat) => (p : Int)
@[simp] theorem natInts_length (P : List Nat) : (natInts P).length = P.length := by simp [natInts]
theorem natInts_append (P R : List Nat) : natInts (P ++ R) = natInts P ++ natInts R := by simp [natInts]
theorem l2Through_r {T : List C4} {c : C4} {p : Option Addr} {n cap r : Nat} {w : World} (hl : T.length = n) (hr : through T c = r) (hn : n ≤ 1000) (hok : ∀ z ∈ T, Ok z) (hz : Sl w p T) :
    Calls Try.prog 91 #[.slice p n cap, .agg #[.int .i64 c.a, .int .i64 c.b, .int .i64 c.c, .int .i64 c.d]] w fun e w' => e = .returned (.int .i64 r) ∧ Ex w w' := by
  subst hl; subst hr; exact l2Through_c T c p cap w hn hok hz
theorem isBlocked_r {T : List C4} {c : C4} {p : Option Addr} {n cap : Nat} {r : Bool} {w : World} (hl : T.length = n) (hr : decide (0 < through T c) = r) (hn : n ≤ 1000) (hok : ∀ z ∈ T, Ok z) (hz : Sl w p T) :
    Calls Try.prog 93 #[.slice p n cap, .agg #[.int .i64 c.a, .int .i64 c.b, .int .i64 c.c, .int .i64 c.d]] w fun e w' => e = .returned (.bool r) ∧ Ex w w' := by
  subst hl; subst hr; exact isBlocked_c T c p cap w hn hok hz
def gFrom (T : List C4) : List C4 → Nat → List Nat
  | [], _ => []
  | c :: cs, k => if through T c = 0 then k :: gFrom (T ++ [c]) cs (k + 1) else gFrom T cs (k + 1)
theorem gFrom_len (cs : List C4) : ∀ T k, (gFrom T cs k).length ≤ cs.length := by
  induction cs with
  | nil => intro T k; simp [gFrom]
  | cons c cs ih =>
    intro T k
    unfold gFrom
    split
    · have := ih (T ++ [c]) (k + 1); simp; omega
    · have := ih T (k + 1); simp; omega
def gR (cs : List C4) : List Nat := if handB cs then gFrom [] cs 0 else []
theorem gR_len (cs : List C4) : (gR cs).length ≤ 27 := by
  unfold gR; split
  · rename_i h; have h1 := gFrom_len cs [] 0; have h2 := (handB_ok h).2; omega
  · simp
def giR (cs : List C4) : List Int := natInts (gR cs)
theorem giR_len (cs : List C4) : (giR cs).length ≤ 27 := by rw [giR, natInts_length]; exact gR_len cs
theorem natInts_row {E size lo hi cap : Nat} {w : World} {p : Option Addr} {P : List Nat} (h : RowI lo hi w p cap (natInts P)) : RowI lo hi w p cap (natInts P) := h

theorem l3Picked_c (cs : List C4) (P : List Nat) (p q : Option Addr) (cap cap2 : Nat) (w : World) (hn : cs.length ≤ 1000000000) (hm : P.length ≤ 1000000) (hP : ∀ x ∈ P, x < cs.length) (hz : Sl w p cs) (hy : SlI w q (natInts P)) :
    Calls Try.prog 92 #[.slice p cs.length cap, .slice q P.length cap2] w fun e w' => ∃ g cap', e = .returned (.slice (some ⟨g, 0, none⟩) P.length cap') ∧ Ex w w' ∧ RowV 48 4 w.heap.size w' g cap' P.length (cellsOf (pick cs P)) := by
  have Hz := Lib.hid hz
  have Hy := Lib.hid hy
  have HP := Lib.hid hP
  clear hz hy hP
  go_enter Try.func92, Try.ntmps92
  go_wp2
  go_loopw [5, 6] (fun u i wr => ∃ (k g cap' : Nat), k ≤ P.length ∧ i = .int .i64 k ∧ u = .slice (some ⟨g, 0, none⟩) k cap' ∧ Ex w wr ∧
    RowV 48 4 w.heap.size wr g cap' k (cellsOf (pick cs (P.take k)))) (fun _ i _ => P.length - (intOf i).toNat)
  case atStart => exact ⟨0, w.heap.size, 0, Nat.zero_le _, rfl, rfl, by repeat (first | exact Ex.refl _ | refine Ex.ext ?_ _ | refine Ex.alloc ?_ _ | refine Ex.drew ?_), RowV.start _ _ _⟩
  case round =>
    obtain ⟨k, g, cap', hk, rfl, rfl, hE, hrow⟩ := hrel
    have HE := Lib.hid hE
    have HR := Lib.hid hrow
    clear hE hrow
    by_cases hlt : k < P.length
    · obtain ⟨b2, o2, rfl, hb2, e1⟩ := (Hy.out.ex HE.out) k (by simpa using hlt)
      have hpl := HP.out _ (List.getElem_mem hlt)
      have Hs := Lib.hid (show pick cs (P.take (k + 1)) = pick cs (P.take k) ++ [cs[P[k]]] by rw [List.take_succ_eq_append_getElem hlt, pick_snoc _ hpl])
      have hel : (natInts P)[k]'(by simpa using hlt) = ((P[k] : Nat) : Int) := by simp [natInts]
      rw [hel] at e1
      clear hel
      obtain ⟨b, o, rfl, hb, h1, h2, h3, h4⟩ := (Hz.out.ex HE.out) P[k] hpl
      generalize P[k] = pk at *
      generalize cs[pk] = z at *
      have hpl' : (pk : Int) < (cs.length : Int) := by omega
      go_wp2_with (at_builtin; refine wp_app rowC4 (nW := _) (by simp [go_sem]) rfl _ _ rfl rfl (HR.out.ex (by exact by repeat (first | exact Ex.refl _ | refine Ex.ext ?_ _ | refine Ex.alloc ?_ _ | refine Ex.drew ?_))) 1 1 [.int .i64 z.a, .int .i64 z.b, .int .i64 z.c, .int .i64 z.d] rfl rfl (one4 _ _ _ _) (by omega) ?c2 ?c3 ?_; (case c2 => (unfold maxLen; omega)); (case c3 => omega); intro g' cap'' wq hrow' hK hg')
      go_roundw
      case rel =>
        (try ((repeat apply Exists.intro); refine ⟨?_, rfl⟩))
        have hgb := HR.out.blk
        refine ⟨k + 1, g', cap'', by omega, by go_num, rfl, Keeps.ex (HE.out.trans (by exact by repeat (first | exact Ex.refl _ | refine Ex.ext ?_ _ | refine Ex.alloc ?_ _ | refine Ex.drew ?_))) hK (by omega), ?_⟩
        rw [Hs.out, cellsOf_append]; exact hrow'
      case measure => simp [intOf]; omega
    · have : k = P.length := by omega
      subst this
      go_wp2
      go_ret
      exact ⟨g, cap', rfl, HE.out, by have := HR.out; rw [List.take_length] at this; exact this⟩

theorem l3Picked_n {cs : List C4} {P : List Nat} {n : Nat} {p q : Option Addr} {cap cap2 : Nat} {w : World} (hl : P.length = n) (hn : cs.length ≤ 1000000000) (hm : n ≤ 1000000) (hP : ∀ x ∈ P, x < cs.length) (hz : Sl w p cs) (hy : SlI w q (natInts P)) :
    Calls Try.prog 92 #[.slice p cs.length cap, .slice q n cap2] w fun e w' => ∃ g cap', e = .returned (.slice (some ⟨g, 0, none⟩) n cap') ∧ Ex w w' ∧ RowV 48 4 w.heap.size w' g cap' n (cellsOf (pick cs P)) := by
  subst hl; exact l3Picked_c cs P p q cap cap2 w hn hm hP hz hy

theorem specGreedyCap_c (cs : List C4) (p : Option Addr) (cap : Nat) (w : World) (hn : cs.length ≤ 1000000000000) (hz : Sl w p cs) :
    Calls Try.prog 49 #[.slice p cs.length cap] w fun e w' => ∃ q cap', e = .returned (.tuple #[.slice q (giR cs).length cap', .bool (handB cs)]) ∧ Ex w w' ∧ RowI w.heap.size w'.heap.size w' q cap' (giR cs) := by
  have Hz := Lib.hid hz
  clear hz
  have row0 := Lib.hid (RowV.start w 3 1)
  cases h1 : handB cs
  · have hR : giR cs = [] := by simp [giR, gR, h1, natInts]
    rw [hR]
    clear hR
    go_enter Try.func49, Try.ntmps49
    go_wp2_with (first | (go_at_call 64; refine (l2Hand_c _ _ _ _ hn (Hz.out.ex (by repeat (first | exact Ex.refl _ | refine Ex.ext ?_ _ | refine Ex.alloc ?_ _ | refine Ex.drew ?_)))).mono ?_; rintro e w' ⟨rfl, x, rfl⟩; rw [h1]))
    go_ret2
    exact ⟨some ⟨w.heap.size, 0, none⟩, 0, by simp [natInts], by repeat (first | exact Ex.refl _ | refine Ex.ext ?_ _ | refine Ex.alloc ?_ _ | refine Ex.drew ?_), (RowV.rowI (row0.out.ex (by exact by repeat (first | exact Ex.refl _ | refine Ex.ext ?_ _ | refine Ex.alloc ?_ _ | refine Ex.drew ?_))) rfl)⟩
  · have hR : giR cs = natInts (gFrom [] cs 0) := by simp [giR, gR, h1]
    rw [hR]
    clear hR
    have Hok := Lib.hid (handB_ok h1)
    have hn2 := (handB_ok h1).2
    go_enter Try.func49, Try.ntmps49
    go_wp2_with (first | (go_at_call 64; refine (l2Hand_c _ _ _ _ hn (Hz.out.ex (by repeat (first | exact Ex.refl _ | refine Ex.ext ?_ _ | refine Ex.alloc ?_ _ | refine Ex.drew ?_)))).mono ?_; rintro e w' ⟨rfl, x, rfl⟩; rw [h1]))
    go_loopw [4, 5] (fun u i wr => ∃ (k : Nat) (P : List Nat) (g cap' : Nat), k ≤ cs.length ∧ i = .int .i64 k ∧ u = .slice (some ⟨g, 0, none⟩) P.length cap' ∧ Ex w wr ∧
      RowV 3 1 w.heap.size wr g cap' P.length (intVals (natInts P)) ∧ (∀ x ∈ P, x < k) ∧ gFrom [] cs 0 = P ++ gFrom (pick cs P) (cs.drop k) k) (fun _ i _ => cs.length - (intOf i).toNat)
    case atStart => exact ⟨0, [], w.heap.size, 0, Nat.zero_le _, rfl, rfl, by repeat (first | exact Ex.refl _ | refine Ex.ext ?_ _ | refine Ex.alloc ?_ _ | refine Ex.drew ?_), row0.out.ex (by exact by repeat (first | exact Ex.refl _ | refine Ex.ext ?_ _ | refine Ex.alloc ?_ _ | refine Ex.drew ?_)), by simp, rfl⟩
    case round =>
      obtain ⟨k, P, g, cap', hk, rfl, rfl, hE, hrow, hP, hf⟩ := hrel
      have HE := Lib.hid hE
      have HR := Lib.hid hrow
      have HP := Lib.hid hP
      have Hf := Lib.hid hf
      clear hE hrow hP hf
      by_cases hlt : k < cs.length
      · have hE := HE.out
        have hz := Hz.out.ex hE
        obtain ⟨b, o, rfl, hb, e1, e2, e3, e4⟩ := hz k hlt
        have hpk : ∀ x ∈ P, x < cs.length := fun x hx => by have := HP.out x hx; omega
        have Hpo := Lib.hid (pick_ok hpk Hok.out.1)
        have Hpk := Lib.hid hpk
        clear hpk
        have hrow := HR.out
        have Hps := Lib.hid (pick_snoc P hlt)
        have Hd := Lib.hid (List.drop_eq_getElem_cons hlt)
        generalize cs[k] = z at *
        have hbd : P.length ≤ 27 := by
          have h1 := gFrom_len cs [] 0
          rw [Hf.out, List.length_append] at h1
          omega
        have hlen2 : (pick cs P).length ≤ 1000 := by simp; omega
        have hlp := pick_length cs P
        have Hgl := Lib.hid (HR.out.rowI (by simp))
        obtain ⟨t, ht⟩ : ∃ t, through (pick cs P) z = t := ⟨_, rfl⟩
        have htb : t ≤ 1000000 := by rw [← ht]; exact pairs_small hlen2
        have Hgy := Lib.hid (show through (pick cs P) z = 0 → gFrom (pick cs P) (z :: cs.drop (k + 1)) k = k :: gFrom (pick cs P ++ [z]) (cs.drop (k + 1)) (k + 1) from fun h => by rw [gFrom, if_pos h])
        have Hgn := Lib.hid (show ¬ through (pick cs P) z = 0 → gFrom (pick cs P) (z :: cs.drop (k + 1)) k = gFrom (pick cs P) (cs.drop (k + 1)) (k + 1) from fun h => by rw [gFrom, if_neg h])
        rw [ht] at Hgy Hgn
        generalize hN : P.length = N at *
        have HN := Lib.hid hN
        clear hN
        by_cases h0 : t = 0
        all_goals
          go_wp2
          go_region_held3 (fun w' => w'.cell? ⟨b, o + k * 4, none⟩ = some (.int .i64 z.a) ∧ w'.cell? ⟨b, o + k * 4 + 1, none⟩ = some (.int .i64 z.b) ∧ w'.cell? ⟨b, o + k * 4 + 2, none⟩ = some (.int .i64 z.c) ∧ w'.cell? ⟨b, o + k * 4 + 3, none⟩ = some (.int .i64 z.d))
            (first | go_keep | (rw [hk0.below.cell hb, hk0.below.cell hb, hk0.below.cell hb, hk0.below.cell hb]; exact ⟨e1, e2, e3, e4⟩))
            (first | (go_at_call 92; refine (l3Picked_n HN.out (by omega) (by omega) Hpk.out (hz.ex (by exact by repeat (first | exact Ex.refl _ | refine Ex.ext ?_ _ | refine Ex.alloc ?_ _ | refine Ex.drew ?_))) (Hgl.out.sl.ex (by exact by repeat (first | exact Ex.refl _ | refine Ex.ext ?_ _ | refine Ex.alloc ?_ _ | refine Ex.drew ?_)))).mono ?_; rintro e w1 ⟨g1, c1, rfl, hx, hr1⟩; have hk0 : Ex wr w1 := (Ex.trans (by exact by repeat (first | exact Ex.refl _ | refine Ex.ext ?_ _ | refine Ex.alloc ?_ _ | refine Ex.drew ?_)) hx); have hE := hE.trans hk0; have hrow := hrow.ex hk0; have hr1 := (hr1.row hlp.symm); clear hx) |
              (go_at_call 91; refine (l2Through_r hlp ht (by omega) Hpo.out hr1.sl).mono ?_; rintro e w2 ⟨rfl, hx⟩; have hk0 := hk0.trans hx; have hE := hE.trans hx; have hrow := hrow.ex hx; clear hx))
        · go_wp2_with (at_builtin; refine wp_app rowInt (nW := _) (by simp [go_sem]) rfl _ _ rfl rfl (hrow.ex (Ex.refl _)) 1 1 [.int .i64 k] rfl rfl (one1 _) (by omega) ?c2 ?c3 ?_; (case c2 => (unfold maxLen; omega)); (case c3 => omega); intro g' cap'' wq hrow' hK hg')
          go_roundw
          case rel =>
            (try ((repeat apply Exists.intro); refine ⟨?_, rfl⟩))
            have hgb := HR.out.blk
            refine ⟨k + 1, P ++ [k], g', cap'', by omega, by go_num, by simp [HN.out], Keeps.ex hE hK (by omega), ?_, ?_, ?_⟩
            · rw [natInts_append, intVals_append, List.length_append, HN.out]; exact hrow'
            · intro x hx
              simp at hx
              rcases hx with hx | rfl
              · have := HP.out x hx; omega
              · omega
            · rw [Hf.out, Hd.out, Hgy.out h0, Hps.out]; simp
          case measure => simp [intOf]; omega
        · go_wp2
          go_roundw
          case rel =>
            (try ((repeat apply Exists.intro); refine ⟨?_, rfl⟩))
            refine ⟨k + 1, P, g, cap', by omega, by go_num, by rw [HN.out], hE, by rw [HN.out]; exact hrow, fun x hx => by have := HP.out x hx; omega, ?_⟩
            rw [Hf.out, Hd.out, Hgn.out h0]
          case measure => simp [intOf]; omega
      · have : k = cs.length := by omega
        subst this
        go_wp2
        go_ret2
        have e := Hf.out
        rw [List.drop_length, gFrom, List.append_nil] at e
        rw [e]
        exact ⟨some ⟨g, 0, none⟩, cap', by simp, HE.out, HR.out.rowI (by simp)⟩

theorem implGreedyCap_c (cs : List C4) (p : Option Addr) (cap : Nat) (w : World) (hn : cs.length ≤ 1000000000000) (hz : Sl w p cs) :
    Calls Try.prog 50 #[.slice p cs.length cap] w fun e w' => ∃ q cap', e = .returned (.tuple #[.slice q (giR cs).length cap', .bool (handB cs)]) ∧ Ex w w' ∧ RowI w.heap.size w'.heap.size w' q cap' (giR cs) := by
  have Hz := Lib.hid hz
  clear hz
  cases h1 : handB cs
  · have hR : giR cs = [] := by simp [giR, gR, h1, natInts]
    rw [hR]
    clear hR
    go_enter Try.func50, Try.ntmps50
    go_wp2_with (first | (go_at_call 66; refine (implIsHand_c _ _ _ _ hn (Hz.out.ex (by repeat (first | exact Ex.refl _ | refine Ex.ext ?_ _ | refine Ex.alloc ?_ _ | refine Ex.drew ?_)))).mono ?_; rintro e w' ⟨rfl, x, rfl⟩; rw [h1]))
    go_ret2
    exact ⟨none, 0, by simp [natInts], by repeat (first | exact Ex.refl _ | refine Ex.ext ?_ _ | refine Ex.alloc ?_ _ | refine Ex.drew ?_), RowI.nil _ _ _⟩
  · have hR : giR cs = natInts (gFrom [] cs 0) := by simp [giR, gR, h1]
    rw [hR]
    clear hR
    have Hok := Lib.hid (handB_ok h1)
    have hn2 := (handB_ok h1).2
    go_enter Try.func50, Try.ntmps50
    go_wp2_with (first | (go_at_call 66; refine (implIsHand_c _ _ _ _ hn (Hz.out.ex (by repeat (first | exact Ex.refl _ | refine Ex.ext ?_ _ | refine Ex.alloc ?_ _ | refine Ex.drew ?_)))).mono ?_; rintro e w' ⟨rfl, x, rfl⟩; rw [h1]))
    all_goals
      go_loopw [4, 5, 15] (fun u u2 i wr => ∃ (k : Nat) (P : List Nat) (g cap' g2 cap2 : Nat), k ≤ cs.length ∧ i = .int .i64 k ∧ u = .slice (some ⟨g, 0, none⟩) P.length cap' ∧ u2 = .slice (some ⟨g2, 0, none⟩) P.length cap2 ∧ Ex w wr ∧ g ≠ g2 ∧
        RowV 3 1 w.heap.size wr g cap' P.length (intVals (natInts P)) ∧ RowV 48 4 w.heap.size wr g2 cap2 P.length (cellsOf (pick cs P)) ∧ (∀ x ∈ P, x < k) ∧ gFrom [] cs 0 = P ++ gFrom (pick cs P) (cs.drop k) k) (fun _ _ i _ => cs.length - (intOf i).toNat)
      case atStart => exact ⟨0, [], w.heap.size + x.sz, 0, w.heap.size + x.sz + 1, 0, Nat.zero_le _, rfl, rfl, rfl, by repeat (first | exact Ex.refl _ | refine Ex.ext ?_ _ | refine Ex.alloc ?_ _ | refine Ex.drew ?_), (by omega), ((RowV.start' (ext w x) _ _ _ (by simp [ext_size])).low (by omega)).ex ((Ex.refl _).alloc _), (RowV.start' ((ext w x).alloc (.cells #[] 3)) _ _ _ (by simp [ext_size])).low (by omega), by simp, rfl⟩
      case round =>
        obtain ⟨k, P, g, cap', g2, cap2, hk, rfl, rfl, rfl, hE, hgg, hrow, hrow2, hP, hf⟩ := hrel
        have HE := Lib.hid hE
        have HR := Lib.hid hrow
        have HR2 := Lib.hid hrow2
        have HP := Lib.hid hP
        have Hf := Lib.hid hf
        clear hE hrow hrow2 hP hf
        by_cases hlt : k < cs.length
        · obtain ⟨b, o, rfl, hb, e1, e2, e3, e4⟩ := (Hz.out.ex HE.out) k hlt
          have hpk : ∀ x ∈ P, x < cs.length := fun x hx => by have := HP.out x hx; omega
          have Hpo := Lib.hid (pick_ok hpk Hok.out.1)
          clear hpk
          have Hps := Lib.hid (pick_snoc P hlt)
          have Hd := Lib.hid (List.drop_eq_getElem_cons hlt)
          generalize cs[k] = z at *
          have hbd : P.length ≤ 27 := by
            have h1 := gFrom_len cs [] 0
            rw [Hf.out, List.length_append] at h1
            omega
          have hlp := pick_length cs P
          have Hgl := Lib.hid ((HR2.out.row hlp.symm).sl)
          have Hgy := Lib.hid (show through (pick cs P) z = 0 → gFrom (pick cs P) (z :: cs.drop (k + 1)) k = k :: gFrom (pick cs P ++ [z]) (cs.drop (k + 1)) (k + 1) from fun h => by rw [gFrom, if_pos h])
          have Hgn := Lib.hid (show ¬ through (pick cs P) z = 0 → gFrom (pick cs P) (z :: cs.drop (k + 1)) k = gFrom (pick cs P) (cs.drop (k + 1)) (k + 1) from fun h => by rw [gFrom, if_neg h])
          generalize hN : P.length = N at *
          have HN := Lib.hid hN
          clear hN
          cases h0 : decide (0 < through (pick cs P) z)
          · have h0' : through (pick cs P) z = 0 := by have := of_decide_eq_false h0; omega
            have hgl := HR.out.blk
            have hgl2 := HR2.out.blk
            go_wp2_with (go_at_call 93; refine (isBlocked_r hlp h0 (by omega) Hpo.out (Hgl.out.ex (by exact by repeat (first | exact Ex.refl _ | refine Ex.ext ?_ _ | refine Ex.alloc ?_ _ | refine Ex.drew ?_)))).mono ?_; rintro e wX ⟨rfl, hx⟩; have hrow := HR.out.ex (Ex.trans (by exact by repeat (first | exact Ex.refl _ | refine Ex.ext ?_ _ | refine Ex.alloc ?_ _ | refine Ex.drew ?_)) hx); have hrow2 := HR2.out.ex (Ex.trans (by exact by repeat (first | exact Ex.refl _ | refine Ex.ext ?_ _ | refine Ex.alloc ?_ _ | refine Ex.drew ?_)) hx); have hEX := HE.out.trans (Ex.trans (by exact by repeat (first | exact Ex.refl _ | refine Ex.ext ?_ _ | refine Ex.alloc ?_ _ | refine Ex.drew ?_)) hx); have hbx := (Box4.new wr z.a z.b z.c z.d).ex hx; have hsz := hx.below.size; have hsz0 := alloc_sz_of' hx; clear hx; obtain ⟨b0, b1, b2, b3, b4⟩ := id hbx)
            have hg1 := hrow.blk
            have hg2 := hrow2.blk
            go_region_held3 (fun w' => w'.cell? ⟨wr.heap.size, 0, none⟩ = some (.int .i64 z.a) ∧ w'.cell? ⟨wr.heap.size, 1, none⟩ = some (.int .i64 z.b) ∧ w'.cell? ⟨wr.heap.size, 2, none⟩ = some (.int .i64 z.c) ∧ w'.cell? ⟨wr.heap.size, 3, none⟩ = some (.int .i64 z.d))
              (first | go_keep | exact hKB.four (by omega) (by assumption) | exact hKA.four (by omega) (by first | assumption | go_keep))
              (first | (refine step_app rowInt (by rfl) _ _ (by rfl) (by rfl) (hrow.ex (by exact by repeat (first | exact Ex.refl _ | refine Ex.ext ?_ _ | refine Ex.alloc ?_ _ | refine Ex.drew ?_))) _ 1 1 [.int .i64 k] (by rfl) (by rfl) (cells1 (by go_simp)) (one1 _) (by omega) (by unfold maxLen; omega) (by omega) ?_; intro gA cA wA hrA hKA hgA; have hrow2 := (hrow2.ex (by exact by repeat (first | exact Ex.refl _ | refine Ex.ext ?_ _ | refine Ex.alloc ?_ _ | refine Ex.drew ?_))).keeps hKA (Ne.symm hgg); simp [go_sem] at hgA) |
                (refine step_app rowC4 (by rfl) _ _ (by rfl) (by rfl) (hrow2.ex (by exact by repeat (first | exact Ex.refl _ | refine Ex.ext ?_ _ | refine Ex.alloc ?_ _ | refine Ex.drew ?_))) _ 1 1 [.int .i64 z.a, .int .i64 z.b, .int .i64 z.c, .int .i64 z.d] (by rfl) (by rfl) (by first | (refine cells4 ?_ ?_ ?_ ?_ <;> (go_simp; done)) | (refine Keeps.cellsK hKA (by omega) ?_; refine cells4 ?_ ?_ ?_ ?_ <;> (go_simp; done))) (one4 _ _ _ _) (by omega) (by unfold maxLen; omega) (by omega) ?_; intro gB cB wB hrB hKB hgB))
            all_goals
              have hgbA := hrA.blk
              (try simp [go_sem] at hgB)
              go_wp2
              go_roundw
              case rel =>
                (try ((repeat apply Exists.intro); refine ⟨?_, rfl⟩))
                refine ⟨k + 1, P ++ [k], gA, cA, gB, cB, by omega, by go_num, by simp [HN.out], by simp [HN.out], Keeps.ex ((Keeps.ex (hEX.trans (by exact by repeat (first | exact Ex.refl _ | refine Ex.ext ?_ _ | refine Ex.alloc ?_ _ | refine Ex.drew ?_))) hKA (by omega)).trans (by exact by repeat (first | exact Ex.refl _ | refine Ex.ext ?_ _ | refine Ex.alloc ?_ _ | refine Ex.drew ?_))) hKB (by omega), by omega, ?_, ?_, ?_, ?_⟩
                · rw [natInts_append, intVals_append, List.length_append, HN.out]; exact (hrA.ex (by exact by repeat (first | exact Ex.refl _ | refine Ex.ext ?_ _ | refine Ex.alloc ?_ _ | refine Ex.drew ?_))).keeps hKB (by omega)
                · rw [Hps.out, cellsOf_append, List.length_append, HN.out]; exact hrB
                · intro x hx
                  simp at hx
                  rcases hx with hx | rfl
                  · have := HP.out x hx; omega
                  · omega
                · rw [Hf.out, Hd.out, Hgy.out h0', Hps.out]; simp
              case measure => simp [intOf]; omega
          · go_wp2_with (go_at_call 93; refine (isBlocked_r hlp h0 (by omega) Hpo.out (Hgl.out.ex (by exact by repeat (first | exact Ex.refl _ | refine Ex.ext ?_ _ | refine Ex.alloc ?_ _ | refine Ex.drew ?_)))).mono ?_; rintro e w' ⟨rfl, x, rfl⟩)
            go_roundw
            case rel =>
              (try ((repeat apply Exists.intro); refine ⟨?_, rfl⟩))
              have h0' : ¬ through (pick cs P) z = 0 := by have := of_decide_eq_true h0; omega
              refine ⟨k + 1, P, g, cap', g2, cap2, by omega, by go_num, by rw [HN.out], by rw [HN.out], HE.out.trans (by exact by repeat (first | exact Ex.refl _ | refine Ex.ext ?_ _ | refine Ex.alloc ?_ _ | refine Ex.drew ?_)), hgg, by rw [HN.out]; exact HR.out.ex (by exact by repeat (first | exact Ex.refl _ | refine Ex.ext ?_ _ | refine Ex.alloc ?_ _ | refine Ex.drew ?_)), by rw [HN.out]; exact HR2.out.ex (by exact by repeat (first | exact Ex.refl _ | refine Ex.ext ?_ _ | refine Ex.alloc ?_ _ | refine Ex.drew ?_)), fun x hx => by have := HP.out x hx; omega, ?_⟩
              rw [Hf.out, Hd.out, Hgn.out h0']
            case measure => simp [intOf]; omega
        · have : k = cs.length := by omega
          subst this
          go_wp2
          go_ret2
          have e := Hf.out
          rw [List.drop_length, gFrom, List.append_nil] at e
          rw [e]
          exact ⟨some ⟨g, 0, none⟩, cap', by simp, HE.out, HR.out.rowI (by simp)⟩
theorem fnExactGreedyCap_walk (w : World) (p : Option Addr) (cs : List C4) (cap : Nat) (hl : cs.length ≤ maxLen) (hz : Sl w p cs) : Calls Try.prog 10 #[.slice p cs.length cap] w fun e w' => e = .returned (.bool true) ∧ Below w.heap.size w w' := by
  unfold maxLen at hl
  have hB := Below.refl w.heap.size w
  by_cases hs : cs.length ≤ 1048576
  · go_enter Try.func10, Try.ntmps10
    go_wp2_with (go_at_call 17; refine (sz_c _ _ _ _ (by omega) (by omega) (by omega) _).mono ?_; rintro e w1 ⟨rfl, hx⟩; rw [szSmall hs]; have hB := below_ex hB hx; have hs1 := Lib.hid hx.below.size; clear hx)
    have h3 : ¬ ((1048576 : Int) - cs.length < 0) := by omega
    have hlen := giR_len cs
    go_wp2_with (go_at_call 19; refine (toA4S_o _ _ _ _ (by omega) (hz.below hB)).mono ?_; rintro e w2 ⟨gra, rfl, hx, ra⟩; have hB := below_ex hB hx; have hs2 := Lib.hid hx.below.size; clear hx)
    go_wp2_with (go_at_call 49; refine (specGreedyCap_c _ _ _ _ (by omega) ra.sl).mono ?_; rintro e w3 ⟨qw, cw, rfl, hx, rw0⟩; have hB := below_ex hB hx; have hs3 := Lib.hid hx.below.size; clear hx)
    go_wp2_with (go_at_call 19; refine (toA4S_o _ _ _ _ (by omega) (hz.below hB)).mono ?_; rintro e w4 ⟨grx, rfl, hx, rx⟩; have rw0 := rw0.ex hx; have hB := below_ex hB hx; have hs4 := Lib.hid hx.below.size; clear hx)
    go_wp2_with (go_at_call 50; refine (implGreedyCap_c _ _ _ _ (by omega) rx.sl).mono ?_; rintro e w5 ⟨qg, cg, rfl, hx, rg⟩; have rw0 := rw0.ex hx; have rx := rx.ex hx; have hB := below_ex hB hx; have hs5 := Lib.hid hx.below.size; clear hx)
    go_wp2_with (go_at_call 21; refine (eqIntS_c _ _ _ _ _ _ _ (by omega) (by omega) rg.sl rw0.sl).mono ?_; rintro e w6 ⟨rfl, hx⟩; have rw0 := rw0.ex hx; have rx := rx.ex hx; have rg := rg.ex hx; have hB := below_ex hB hx; have hs6 := Lib.hid hx.below.size; clear hx)
    go_wp2_with (go_at_call 19; refine (toA4S_o _ _ _ _ (by omega) (hz.below hB)).mono ?_; rintro e w7 ⟨gry, rfl, hx, ry⟩; have rw0 := rw0.ex hx; have rx := rx.ex hx; have rg := rg.ex hx; have hB := below_ex hB hx; have hs7 := Lib.hid hx.below.size; clear hx)
    go_wp2_with (go_at_call 22; refine (eqA4S_c _ _ _ _ _ _ _ (by omega) (by omega) rx.sl ry.sl).mono ?_; rintro e w8 ⟨rfl, hx⟩; have rw0 := rw0.ex hx; have rx := rx.ex hx; have rg := rg.ex hx; have ry := ry.ex hx; have hB := below_ex hB hx; have hs8 := Lib.hid hx.below.size; clear hx)
    go_wp2_with (go_at_call 23; refine (markA4S_c _ _ _ _ _ _ _ (by omega) (by omega) (by omega) rx).mono ?_; rintro e w9 ⟨rfl, rx, ha⟩; have rw0 := ha.rowI rw0 (Or.inl (by have := hs1.out; have := hs2.out; have := hs3.out; have := hs4.out; have := hs5.out; have := hs6.out; have := hs7.out; have := hs8.out; omega)); have rg := ha.rowI rg (Or.inr (by have := hs1.out; have := hs2.out; have := hs3.out; have := hs4.out; have := hs5.out; have := hs6.out; have := hs7.out; have := hs8.out; omega)); have hB := below_apart hB ha (by have := hs1.out; have := hs2.out; have := hs3.out; have := hs4.out; have := hs5.out; have := hs6.out; have := hs7.out; have := hs8.out; omega); have hs9 := Lib.hid ha.size; clear ha)
    go_wp2_with (go_at_call 21; refine (eqIntS_c _ _ _ _ _ _ _ (by omega) (by omega) rg.sl rw0.sl).mono ?_; rintro e w10 ⟨rfl, hx⟩; have rw0 := rw0.ex hx; have rg := rg.ex hx; have hB := below_ex hB hx; have hs10 := Lib.hid hx.below.size; clear hx)
    go_wp2_with (go_at_call 24; refine (markIntS_c _ _ _ _ _ _ _ (by omega) (by omega) (by omega) rg).mono ?_; rintro e w11 ⟨rfl, rg, ha⟩; have rw0 := ha.rowI rw0 (Or.inl (by have := hs1.out; have := hs2.out; have := hs3.out; have := hs4.out; have := hs5.out; have := hs6.out; have := hs7.out; have := hs8.out; have := hs9.out; have := hs10.out; omega)); have hB := below_apart hB ha (by have := hs1.out; have := hs2.out; have := hs3.out; have := hs4.out; have := hs5.out; have := hs6.out; have := hs7.out; have := hs8.out; have := hs9.out; have := hs10.out; omega); have hs11 := Lib.hid ha.size; clear ha)
    go_wp2_with (go_at_call 25; refine (heldIntS_c _ _ _ _ _ (by omega) (by omega) (by omega) rg.sl).mono ?_; rintro e w12 ⟨rfl, hx⟩; have rw0 := rw0.ex hx; have rg := rg.ex hx; have hB := below_ex hB hx; have hs12 := Lib.hid hx.below.size; clear hx)
    go_wp2_with (go_at_call 19; refine (toA4S_o _ _ _ _ (by omega) (hz.below hB)).mono ?_; rintro e w13 ⟨grz, rfl, hx, rz⟩; have rw0 := rw0.ex hx; have rg := rg.ex hx; have hB := below_ex hB hx; have hs13 := Lib.hid hx.below.size; clear hx)
    go_wp2_with (go_at_call 50; refine (implGreedyCap_c _ _ _ _ (by omega) rz.sl).mono ?_; rintro e w14 ⟨qh, ch, rfl, hx, rh⟩; have rw0 := rw0.ex hx; have rg := rg.ex hx; have hB := below_ex hB hx; have hs14 := Lib.hid hx.below.size; clear hx)
    go_wp2_with (go_at_call 21; refine (eqIntS_c _ _ _ _ _ _ _ (by omega) (by omega) rh.sl rw0.sl).mono ?_; rintro e w15 ⟨rfl, hx⟩; have rw0 := rw0.ex hx; have rg := rg.ex hx; have rh := rh.ex hx; have hB := below_ex hB hx; have hs15 := Lib.hid hx.below.size; clear hx)
    go_wp2_with (go_at_call 25; refine (heldIntS_c _ _ _ _ _ (by omega) (by omega) (by omega) rg.sl).mono ?_; rintro e w16 ⟨rfl, hx⟩; have rg := rg.ex hx; have hB := below_ex hB hx; have hs16 := Lib.hid hx.below.size; clear hx)
    go_ret
    exact ⟨rfl, hB⟩
  · go_enter Try.func10, Try.ntmps10
    go_wp2_with (go_at_call 17; refine (sz_c _ _ _ _ (by omega) (by omega) (by omega) _).mono ?_; rintro e w1 ⟨rfl, hx⟩; rw [szBig hs]; have hB := below_ex hB hx; clear hx)
    go_ret
    exact ⟨rfl, hB⟩
end Go.Proofs.Ytdnnjhgkcchcaaa
