/- Sorting cards: slices.SortFunc by the kit's contract. -/
import Derived.Test.YtnjfkgggebhelaaSortP
import Derived.Test.YtnjfkgggebhelaaOwn
import Derived.Test.YtnjfkgggebhelaaRowV
import Derived.Test.YtnjfkgggebhelaaPile
import Derived.Test.YtnjfkgggebhelaaShelf
import Derived.Shelf.SlSortCmp.QuietGrown
namespace Go.Proofs.Ytnjfkgggebhelaa
set_option linter.unusedSimpArgs false
set_option linter.unusedVariables false
set_option maxHeartbeats 1000000
set_option maxRecDepth 100000
open Go.RowKit Go.Sort

theorem number_g (c : C4) (h : Ok c) (w : World) : Calls Try.prog 87 #[.agg #[.int .i64 c.a, .int .i64 c.b, .int .i64 c.c, .int .i64 c.d]] w fun e w' => e = .returned (.int .i64 (num c)) ∧ ∃ q os, w' = grow (w.drewN q) os := by
  obtain ⟨h1, h2, h3, h4, h5, h6, h7, h8⟩ := h
  go_enter Try.func87, Try.ntmps87
  go_wp2
  refine wp_loop_rounds 5 ?_
  iterate 5 (all_goals (try rw [rounds_succ]); go_wp2)
  go_ret
  exact ⟨ret_int (by unfold num; omega), 0, _, by rw [alloc_eq_grow]; rfl⟩
theorem number_r {c : C4} {n : Int} (h : Hid (Ok c ∧ num c = n)) (w : World) : Calls Try.prog 87 #[.agg #[.int .i64 c.a, .int .i64 c.b, .int .i64 c.c, .int .i64 c.d]] w fun e w' => e = .returned (.int .i64 n) ∧ ∃ q os, w' = grow (w.drewN q) os := by
  obtain ⟨h1, rfl⟩ := h.out
  exact number_g c h1 w
theorem drewN_grow (w : World) (os : Array Obj) (n : Nat) : grow (w.drewN n) os = (grow w os).drewN n := rfl
theorem compare_g (a b : C4) (ha : Ok a) (hb : Ok b) (w : World) : Calls Try.prog 83 #[.agg #[.int .i64 a.a, .int .i64 a.b, .int .i64 a.c, .int .i64 a.d], .agg #[.int .i64 b.a, .int .i64 b.b, .int .i64 b.c, .int .i64 b.d]] w fun e w' => e = .returned (.int .i64 (num a - num b)) ∧ ∃ q os, w' = grow (w.drewN q) os := by
  have mixed : Try.prog.follows .mixedOrders = true := by kernel_rfl
  have na := num_bd ha
  have nb := num_bd hb
  have hwr : IntKind.i64.wrap (num a - num b) = num a - num b := IntWalk.i64_in _ (by omega)
  obtain ⟨ka, ea⟩ : ∃ k, num a = k := ⟨_, rfl⟩
  obtain ⟨kb, eb⟩ : ∃ k, num b = k := ⟨_, rfl⟩
  have HA := Lib.hid (show Ok a ∧ num a = ka from ⟨ha, ea⟩)
  have HB := Lib.hid (show Ok b ∧ num b = kb from ⟨hb, eb⟩)
  rw [ea] at na hwr ⊢
  rw [eb] at nb hwr ⊢
  clear ea eb
  go_enter Try.func83, Try.ntmps83
  go_wp2
  have a0 : ((w.alloc (.cells #[.int .i64 a.a, .int .i64 a.b, .int .i64 a.c, .int .i64 a.d] 29)).alloc (.cells #[.int .i64 b.a, .int .i64 b.b, .int .i64 b.c, .int .i64 b.d] 29)).cell? ⟨w.heap.size, 0, none⟩ = some (.int .i64 a.a) := by go_simp
  have a1 : ((w.alloc (.cells #[.int .i64 a.a, .int .i64 a.b, .int .i64 a.c, .int .i64 a.d] 29)).alloc (.cells #[.int .i64 b.a, .int .i64 b.b, .int .i64 b.c, .int .i64 b.d] 29)).cell? ⟨w.heap.size, 1, none⟩ = some (.int .i64 a.b) := by go_simp
  have a2 : ((w.alloc (.cells #[.int .i64 a.a, .int .i64 a.b, .int .i64 a.c, .int .i64 a.d] 29)).alloc (.cells #[.int .i64 b.a, .int .i64 b.b, .int .i64 b.c, .int .i64 b.d] 29)).cell? ⟨w.heap.size, 2, none⟩ = some (.int .i64 a.c) := by go_simp
  have a3 : ((w.alloc (.cells #[.int .i64 a.a, .int .i64 a.b, .int .i64 a.c, .int .i64 a.d] 29)).alloc (.cells #[.int .i64 b.a, .int .i64 b.b, .int .i64 b.c, .int .i64 b.d] 29)).cell? ⟨w.heap.size, 3, none⟩ = some (.int .i64 a.d) := by go_simp
  have b0 : ((w.alloc (.cells #[.int .i64 a.a, .int .i64 a.b, .int .i64 a.c, .int .i64 a.d] 29)).alloc (.cells #[.int .i64 b.a, .int .i64 b.b, .int .i64 b.c, .int .i64 b.d] 29)).cell? ⟨w.heap.size + 1, 0, none⟩ = some (.int .i64 b.a) := by go_simp
  have b1 : ((w.alloc (.cells #[.int .i64 a.a, .int .i64 a.b, .int .i64 a.c, .int .i64 a.d] 29)).alloc (.cells #[.int .i64 b.a, .int .i64 b.b, .int .i64 b.c, .int .i64 b.d] 29)).cell? ⟨w.heap.size + 1, 1, none⟩ = some (.int .i64 b.b) := by go_simp
  have b2 : ((w.alloc (.cells #[.int .i64 a.a, .int .i64 a.b, .int .i64 a.c, .int .i64 a.d] 29)).alloc (.cells #[.int .i64 b.a, .int .i64 b.b, .int .i64 b.c, .int .i64 b.d] 29)).cell? ⟨w.heap.size + 1, 2, none⟩ = some (.int .i64 b.c) := by go_simp
  have b3 : ((w.alloc (.cells #[.int .i64 a.a, .int .i64 a.b, .int .i64 a.c, .int .i64 a.d] 29)).alloc (.cells #[.int .i64 b.a, .int .i64 b.b, .int .i64 b.c, .int .i64 b.d] 29)).cell? ⟨w.heap.size + 1, 3, none⟩ = some (.int .i64 b.d) := by go_simp
  have s0 : w.heap.size < ((w.alloc (.cells #[.int .i64 a.a, .int .i64 a.b, .int .i64 a.c, .int .i64 a.d] 29)).alloc (.cells #[.int .i64 b.a, .int .i64 b.b, .int .i64 b.c, .int .i64 b.d] 29)).heap.size := by simp; omega
  have s1 : w.heap.size + 1 < ((w.alloc (.cells #[.int .i64 a.a, .int .i64 a.b, .int .i64 a.c, .int .i64 a.d] 29)).alloc (.cells #[.int .i64 b.a, .int .i64 b.b, .int .i64 b.c, .int .i64 b.d] 29)).heap.size := by simp
  have e0 : ((w.alloc (.cells #[.int .i64 a.a, .int .i64 a.b, .int .i64 a.c, .int .i64 a.d] 29)).alloc (.cells #[.int .i64 b.a, .int .i64 b.b, .int .i64 b.c, .int .i64 b.d] 29)) = grow w #[.cells #[.int .i64 a.a, .int .i64 a.b, .int .i64 a.c, .int .i64 a.d] 29, .cells #[.int .i64 b.a, .int .i64 b.b, .int .i64 b.c, .int .i64 b.d] 29] := by rw [alloc_eq_grow, alloc_eq_grow, grow_grow]; rfl
  generalize ((w.alloc (.cells #[.int .i64 a.a, .int .i64 a.b, .int .i64 a.c, .int .i64 a.d] 29)).alloc (.cells #[.int .i64 b.a, .int .i64 b.b, .int .i64 b.c, .int .i64 b.d] 29)) = W at *
  have HW := Lib.hid e0
  clear e0
  have A0 := cell_grown s0 a0
  have A1 := cell_grown s0 a1
  have A2 := cell_grown s0 a2
  have A3 := cell_grown s0 a3
  have B0 := cell_grown s1 b0
  have B1 := cell_grown s1 b1
  have B2 := cell_grown s1 b2
  have B3 := cell_grown s1 b3
  clear a0 a1 a2 a3 b0 b1 b2 b3
  go_quiet_grown ((go_at_call 87; refine Calls.grown_of (number_r (by assumption) _)))
  go_wp2
  go_ret
  exact ⟨rfl, nq, _, by rw [HW.out, ← drewN_grow, grow_grow]⟩

/-- Cards, as the sort's contract has them. -/
abbrev OkC := { c : C4 // Ok c }
instance : Inhabited OkC := ⟨⟨⟨0, 0, 0, 0⟩, by constructor <;> simp⟩⟩
def encC (x : OkC) : List Value := [.int .i64 x.1.a, .int .i64 x.1.b, .int .i64 x.1.c, .int .i64 x.1.d]
def cfC (x y : OkC) : Int := num x.1 - num y.1
theorem ok_list : ∀ {cs : List C4}, (∀ z ∈ cs, Ok z) → ∃ d : List OkC, d.map (·.1) = cs
  | [], _ => ⟨[], rfl⟩
  | c :: cs, h => by
    obtain ⟨d, hd⟩ := ok_list (cs := cs) (fun z hz => h z (List.mem_cons_of_mem _ hz))
    exact ⟨⟨c, h c List.mem_cons_self⟩ :: d, by simp [hd]⟩
theorem flat_cells (d : Array OkC) : (flatK encC 4 d).toList = cellsOf (d.toList.map (·.1)) := by
  apply List.ext_getElem?
  intro t
  by_cases h : t < d.size * 4
  · obtain ⟨q, r, rfl, hr⟩ : ∃ q r, t = q * 4 + r ∧ r < 4 := ⟨t / 4, t % 4, by omega, by omega⟩
    have h4 : q < d.size := by omega
    have hl : q < (d.toList.map (·.1)).length := by simpa using h4
    obtain ⟨e0, e1, e2, e3⟩ := cellsOf_get (d.toList.map (·.1)) q hl
    have hL : (flatK encC 4 d).toList[q * 4 + r]? = some ((encC d[(q * 4 + r) / 4]!)[(q * 4 + r) % 4]!) := by
      simp [flatK, h]
    rw [hL, show (q * 4 + r) / 4 = q by omega, show (q * 4 + r) % 4 = r by omega, getElem!_pos d q h4]
    simp only [List.getElem_map, Array.getElem_toList] at e0 e1 e2 e3
    have hr : r = 0 ∨ r = 1 ∨ r = 2 ∨ r = 3 := by omega
    rcases hr with rfl | rfl | rfl | rfl
    · rw [Nat.add_zero, e0]; rfl
    · rw [e1]; rfl
    · rw [e2]; rfl
    · rw [e3]; rfl
  · rw [List.getElem?_eq_none (by simp; omega), List.getElem?_eq_none (by rw [cellsOf_length]; simp; omega)]
theorem RowV.cur {E size lo g cap n : Nat} {w : World} {xs : List Value} (h : RowV E size lo w g cap n xs) : ∃ cur, lo ≤ g ∧ w.heap[g]? = some (.cells cur E (0, 0)) ∧ n ≤ cap ∧ cap ≤ maxLen ∧ cur.size = cap * size ∧ cur.toList.take (n * size) = xs := by
  rcases h.2 with ⟨h1, _⟩ | ⟨g', cap', cur, h1, h2, h3, h4, h5, h6, h7⟩
  · simp at h1
  · simp at h1
    obtain ⟨rfl, rfl⟩ := h1
    exact ⟨cur, h2, h3, h4, h5, h6, h7⟩
theorem holdsK_of {lo g cap n : Nat} {w : World} {d : Array OkC} (h : RowV 29 4 lo w g cap n (cellsOf (d.toList.map (·.1)))) (hn : d.size = n) : HoldsK encC 4 w g 0 d := by
  obtain ⟨cur, h1, h2, h3, h4, h5, h6⟩ := h.cur
  intro j hj
  have hj' : j < n * 4 := by simpa [hn] using hj
  refine ⟨?_, by simp [World.frozen?, h2]⟩
  have e : (flatK encC 4 d)[j]! = (flatK encC 4 d)[j] := getElem!_pos _ j hj
  rw [e]
  have e2 : cur.toList[j]? = some ((flatK encC 4 d)[j]) := by
    have : (cur.toList.take (n * 4))[j]? = some ((flatK encC 4 d)[j]) := by
      rw [h6, ← flat_cells, Array.getElem?_toList, Array.getElem?_eq_getElem hj]
    rwa [List.getElem?_take, if_pos hj'] at this
  simp only [World.cell?, h2, Nat.zero_add, id]
  simpa using e2
theorem rowV_sorted {lo g cap n m : Nat} {w : World} {xs : List Value} {d : Array OkC} {os : Array Obj} (h : RowV 29 4 lo w g cap n xs) (hn : d.size = n) :
    RowV 29 4 lo (sortWorldK encC 4 w g 0 m d os) g cap n (cellsOf (d.toList.map (·.1))) ∧ Keeps g w (sortWorldK encC 4 w g 0 m d os) := by
  obtain ⟨cur, h1, h2, h3, h4, h5, h6⟩ := h.cur
  have hg : g < w.heap.size := (Array.getElem?_eq_some_iff.1 h2).1
  constructor
  · refine ⟨by rw [cellsOf_length]; simp [hn], .inr ⟨g, cap, putCells id 0 (flatK encC 4 d) cur, rfl, h1, ?_, h3, h4, by simpa [putCells] using h5, ?_⟩⟩
    · unfold sortWorldK putRowK
      rw [heap_grow_old _ _ (by simp [putRow, mapBlock, Sort.ahead]; exact hg)]
      simp [putRow, mapBlock, Sort.ahead, Array.getElem?_modify, h2, onCells]
    · rw [← flat_cells]
      apply List.ext_getElem?
      intro j
      rw [List.getElem?_take, Array.getElem?_toList, Array.getElem?_toList]
      by_cases hj : j < n * 4
      · have hjc : j < cur.size := by rw [h5]; omega
        have hjf : j < (flatK encC 4 d).size := by simp [hn]; omega
        rw [if_pos hj]
        simp only [putCells, Array.getElem?_mapIdx, Array.getElem?_eq_getElem hjc, Option.map_some]
        rw [if_pos ⟨by omega, by omega⟩, Array.getElem?_eq_getElem hjf, Nat.sub_zero, getElem!_pos _ j hjf]; rfl
      · rw [if_neg hj, Array.getElem?_eq_none (by simp [hn]; omega)]
  · refine ⟨rfl, rfl, rfl, ?_, fun k hk hne => ?_⟩
    · simp [sortWorldK, putRowK, grow, putRow, mapBlock, Sort.ahead]
    · unfold sortWorldK putRowK
      rw [heap_grow_old _ _ (by simp [putRow, mapBlock, Sort.ahead]; exact hk)]
      simp [putRow, mapBlock, Sort.ahead, Array.getElem?_modify, Ne.symm hne]
theorem ltC (x y : OkC) : ltOf cfC x y = decide (num x.1 < num y.1) := by
  unfold ltOf cfC
  rw [Bool.eq_iff_iff]; simp; omega
theorem swoC : SWO (ltOf cfC) where
  irrefl x := by rw [ltC]; simp
  trans x y z h1 h2 := by rw [ltC] at *; simp at *; omega
  ntrans x y z h1 h2 := by rw [ltC] at *; simp at *; omega
theorem cmpLaysC (blk off size : Nat) (w : World) : CmpLays Try.prog 83 #[] encC 4 cfC blk off size w :=
  fun _ _ _ _ x y => compare_g x.1 y.1 x.2 y.2 _
theorem sortFunc_c (cs : List C4) (g cap lo : Nat) (w : World) (hn : cs.length ≤ 100000000) (ho : ∀ z ∈ cs, Ok z) (h : RowV 29 4 lo w g cap cs.length (cellsOf cs)) :
    Calls Try.prog 82 #[.slice (some ⟨g, 0, none⟩) cs.length cap, .func (.func 83) #[] #[]] w fun e w' =>
      e = .returned (.tuple #[]) ∧ ∃ ds : List C4, ds.Perm cs ∧ (ds.Pairwise fun a b => num a ≤ num b) ∧ RowV 29 4 lo w' g cap cs.length (cellsOf ds) ∧ Keeps g w w' := by
  obtain ⟨dl, hd⟩ := ok_list ho
  have hlen : dl.length = cs.length := by rw [← hd]; simp
  have eg : ∀ args w, (callFunc 83 args).run Try.prog w = .ok (.enter 83 args) w := enters_of Try.func83 (by kernel_rfl) rfl
  have h' : RowV 29 4 lo w g cap cs.length (cellsOf (dl.toArray.toList.map (·.1))) := by simpa [hd] using h
  have hcon := Try.slices_SortFunc 4 Try.isAgg29 Try.sizeOf29 encC (fun _ => rfl) (fun x v hv => by simp [encC] at hv; rcases hv with rfl | rfl | rfl | rfl <;> rfl) cfC swoC 83 #[] g 0 cap dl.toArray w eg (cmpLaysC _ _ _ _) (holdsK_of h' (by simpa using hlen)) h.blk.2 (by simp; omega)
  rw [show dl.toArray.size = cs.length by simpa using hlen] at hcon
  refine hcon.mono ?_
  rintro e w' ⟨rfl, d', m, os, hp, hs, rfl⟩
  have hsz : d'.size = cs.length := by rw [hp.1]; simpa using hlen
  obtain ⟨r1, r2⟩ := rowV_sorted (m := m) (os := os) h hsz
  refine ⟨rfl, d'.toList.map (·.1), ?_, ?_, r1, r2⟩
  · rw [← hd]
    refine List.Perm.map _ ?_
    have := hp.2.2
    rw [← hsz] at this
    rw [Array.toList_extract, Array.toList_extract] at this
    have e1 : d'.toList.extract 0 d'.size = d'.toList := by simp [List.take_of_length_le]
    have e2 : dl.toArray.toList.extract 0 d'.size = dl := by simp [hsz, ← hlen]
    rw [e1, e2] at this
    exact this
  · rw [List.pairwise_map, List.pairwise_iff_getElem]
    intro i j hi hj hij
    simp at hi hj
    have := hs i j (by omega) hij (by omega)
    rw [ltC] at this
    simp [hi, hj] at this ⊢
    exact this
end Go.Proofs.Ytnjfkgggebhelaa
