/- append of a slice of cards, nil or not; l2Own at whatever slice; l4Lay. -/
import Derived.Test.YtkelmfdbcicojaaStepP
import Derived.Test.YtkelmfdbcicojaaDealC
import Derived.Laws.AppendOwnNone
import Derived.Deep.RegionHeld3
namespace Go.Proofs.Ytkelmfdbcicojaa
set_option linter.unusedSimpArgs false
set_option linter.unusedVariables false
set_option maxHeartbeats 1000000
set_option maxRecDepth 100000
open Go.RowKit


/-- What is appended: nil, or a slice that reads as cards. -/
def Src (W : World) (v : Value) (news : List C4) : Prop := (v = .slice none 0 0 ∧ news = []) ∨ ∃ b off c, v = .slice (some ⟨b, off, none⟩) news.length c ∧ Sl W (some ⟨b, off, none⟩) news
theorem Src.ex {W W' : World} {v : Value} {news : List C4} (h : Src W v news) (k : Ex W W') : Src W' v news := by
  rcases h with h | ⟨b, off, c, h1, h2⟩
  · exact Or.inl h
  · exact Or.inr ⟨b, off, c, h1, h2.ex k⟩
theorem Src.of {W : World} {p : Option Addr} {cs : List C4} {n cap : Nat} (hz : Sl W p cs) (hl : cs.length = n) (hp : p = none → cap = 0) (hs : ∀ b o r, p = some ⟨b, o, r⟩ → r = none) : Src W (.slice p n cap) cs := by
  subst hl
  cases p with
  | none =>
    have : cs = [] := by
      cases cs with
      | nil => rfl
      | cons c cs => obtain ⟨b, o, e, _⟩ := hz 0 (by simp); cases e
    subst this
    exact Or.inl ⟨by rw [hp rfl]; rfl, rfl⟩
  | some a =>
    obtain ⟨b, o, s⟩ := a
    have := hs _ _ _ rfl
    subst this
    exact Or.inr ⟨b, o, cap, rfl, hz⟩

theorem oper_apps {W0 W : World} {B : Nat} (hB : B = W0.heap.size) (hE : Ex W0 W) {o : Oper} {a : Act} {K : Act → World → Prop} {Q : Exit → Act → World → Prop} (s x : Operand)
    (ho : o.op = .call { callee := .builtin .append, args := #[s, x], argTypes := #[22, 22] })
    (v : Value) (n : Nat) (xs : List C4) (hs : a.eval s = v) (hown : W.ownsRow B 52 4 v n (cellsOf xs))
    (m : Nat) (news : List C4) (hm : news.length = m) (hx : Src W (a.eval x) news) (h63 : n + m ≤ 1000000000000)
    (h : ∀ p cap w', w'.ownsRow B 52 4 (.slice p (n + m) cap) (n + m) (cellsOf (xs ++ news)) → (∀ a, p = some a → a.block < w'.heap.size) → (p = none → v = .slice none 0 0 ∧ m = 0) → Ex W0 w' → K (a.put o.dst (.slice p (n + m) cap)) w') :
    o.wp Try.prog a W K Q := by
  subst hB
  subst hm
  obtain ⟨i, z, hi, hzz, hsize, hby, hzs⟩ := rowC4.info
  rcases hx with ⟨hx, rfl⟩ | ⟨b, off, c, hx, hz⟩
  · have hrun := run_append_owned_none (P := Try.prog) (w := W) W0.heap.size 22 o.type 52 i 4 rowC4.under hi v n (cellsOf xs) hown
    obtain ⟨p, cap, rfl, hp⟩ := own_form hown
    have hk := h p cap W (by simpa using hown) hp (fun e => by
      subst e
      rcases hown.2 with ⟨h1, h2⟩ | ⟨g, cap', cur, h1, _⟩
      · exact ⟨h1, rfl⟩
      · simp at h1) hE
    unfold Oper.wp
    simp [execOp, ho, resolve, invoke, builtin, hs, hx, hrun, Result.andThen]
    have hk' : K (a.put o.dst (.slice p n cap)) W := by simpa using hk
    exact hk'
  · refine wp_append_own _ s x 22 ho W0.heap.size 52 i z 4 32 rowC4.under hi hzz hsize hby hzs rowC4.pos v n (cellsOf xs) hs hown ⟨b, off, none⟩ news.length c (cellsOf news) hx (cellsOf_length news) hz.cells (cellsOf_one news) (by unfold maxLen; omega) (by omega) hE.below.size (fun v' w' hown' hg hnil => ?_)
    have hbel : Below W0.heap.size W0 w' := hE.below.grown hg hE.below.size (fun k hk => (hown.lt k hk).1)
    obtain ⟨p, cap, rfl, hp⟩ := own_form hown'
    have hown2 := hown'
    rw [← cellsOf_append] at hown'
    refine h p cap w' hown' hp (fun e => ?_) (Ex.of_below hbel)
    subst e
    rcases hown2.2 with ⟨h1, h2⟩ | ⟨g, cap', cur, h1, _⟩
    · exact hnil.1 h1
    · simp at h1

theorem list_apps {W0 W : World} {B : Nat} (hB : B = W0.heap.size) (hE : Ex W0 W) {ops : Array Oper} {rest : List Oper} {o : Oper} {a : Act} {Q : Exit → Act → World → Prop} (hgd : o.guard = none) (s x : Operand)
    (ho : o.op = .call { callee := .builtin .append, args := #[s, x], argTypes := #[22, 22] })
    (v : Value) (n : Nat) (xs : List C4) (hs : a.eval s = v) (hown : W.ownsRow B 52 4 v n (cellsOf xs))
    (m : Nat) (news : List C4) (hm : news.length = m) (hx : Src W (a.eval x) news) (h63 : n + m ≤ 1000000000000)
    (h : ∀ p cap w', w'.ownsRow B 52 4 (.slice p (n + m) cap) (n + m) (cellsOf (xs ++ news)) → (∀ a, p = some a → a.block < w'.heap.size) → (p = none → v = .slice none 0 0 ∧ m = 0) → Ex W0 w' → wpList Try.prog ops Q rest (a.put o.dst (.slice p (n + m) cap)) w') :
    wpList Try.prog ops Q (o :: rest) a W :=
  wpList_plain hgd fun K hK => oper_apps hB hE s x ho v n xs hs hown m news hm hx h63 fun p cap w' h1 h2 h3 h4 => hK _ _ (h p cap w' h1 h2 h3 h4)
theorem step_appsN {W0 W : World} {B : Nat} (hB : B = W0.heap.size) (hE : Ex W0 W) {ops : Array Oper} {o : Oper} {a : Act} {K : Act → World → Prop} {Q : Exit → Act → World → Prop} {Ep : Prop} (hgd : o.guard = none) (s x : Operand)
    (ho : o.op = .call { callee := .builtin .append, args := #[s, x], argTypes := #[22, 22] })
    (v : Value) (n : Nat) (xs : List C4) (hs : a.eval s = v) (hown : W.ownsRow B 52 4 v n (cellsOf xs))
    (m : Nat) (news : List C4) (hm : news.length = m) (hx : Src W (a.eval x) news) (h63 : n + m ≤ 1000000000000)
    (h : ∀ p cap w', w'.ownsRow B 52 4 (.slice p (n + m) cap) (n + m) (cellsOf (xs ++ news)) → (∀ a, p = some a → a.block < w'.heap.size) → (p = none → v = .slice none 0 0 ∧ m = 0) → Ex W0 w' → K (a.put o.dst (.slice p (n + m) cap)) w') :
    if Region.wanted o (yielded ops a.tmps) = true then Oper.wp Try.prog o a W K Q else Ep := by
  have hw : Region.wanted o (yielded ops a.tmps) = true := by simp [Region.wanted, hgd]
  rw [if_pos hw]
  exact oper_apps hB hE s x ho v n xs hs hown m news hm hx h63 h

/-- A copy is never nil. -/
theorem l2Own_s {cs : List C4} {v : Value} {w : World} (hn : cs.length ≤ 1000000000) (hz : Src w v cs) :
    Calls Try.prog 110 #[v] w fun e w' => ∃ g cap', e = .returned (.slice (some ⟨g, 0, none⟩) cs.length cap') ∧ Ex w w' ∧ Row w.heap.size w'.heap.size w' (some ⟨g, 0, none⟩) cap' cs := by
  have Hz := Lib.hid hz
  clear hz
  have own0 := own_empty w 52 4
  go_enter Try.func110, Try.ntmps110
  go_wp2_with (at_builtin; refine list_apps (W0 := w) rfl (by repeat (first | exact Ex.refl _ | refine Ex.ext ?_ _ | refine Ex.alloc ?_ _ | refine Ex.drew ?_)) rfl _ _ rfl (.slice (some ⟨w.heap.size, 0, none⟩) 0 0) 0 [] rfl own0 cs.length cs rfl (Hz.out.ex (by repeat (first | exact Ex.refl _ | refine Ex.ext ?_ _ | refine Ex.alloc ?_ _ | refine Ex.drew ?_))) (by omega) ?_; intro p cap' w' hown hp hnn hE; simp only [Nat.zero_add, List.nil_append] at hown ⊢)
  go_ret
  cases p with
  | none => have := (hnn rfl).1; simp at this
  | some a =>
    rcases hown.2 with ⟨h1, h2⟩ | ⟨g, cap2, cur, h1, h2, h3, h4⟩
    · simp at h1
    · simp at h1
      obtain ⟨rfl, rfl⟩ := h1
      exact ⟨g, cap', rfl, hE, ⟨hown, hp⟩⟩

theorem Sl.drop' {w : World} {b o : Nat} {cs : List C4} (h : Sl w (some ⟨b, o, none⟩) cs) (i : Nat) (hi : i ≤ cs.length) : Sl w (some ⟨b, o + i * 4, none⟩) (cs.drop i) := fun j hj => by
  simp at hj
  obtain ⟨b', o', e, hb, h1, h2, h3, h4⟩ := h (i + j) (by omega)
  simp at e
  obtain ⟨rfl, rfl⟩ := e
  refine ⟨b, o + i * 4, rfl, hb, ?_, ?_, ?_, ?_⟩
  all_goals rw [List.getElem_drop]
  · rw [← h1]; congr 2; omega
  · rw [← h2]; congr 2; omega
  · rw [← h3]; congr 2; omega
  · rw [← h4]; congr 2; omega
theorem pile_src {W : World} {lo g gcap N M : Nat} {s : Int} (hr : RowV 52 4 lo W g gcap 81 (cellsOf (pileR s))) (hNM : N ≤ M) (hM : M ≤ 81) :
    ∃ off, (if gcap = N then (some ⟨g, 0, none⟩ : Option Addr) else some ⟨g, N * 4, none⟩) = some ⟨g, off, none⟩ ∧ Src W (.slice (some ⟨g, off, none⟩) (M - N) (gcap - N)) (((pileR s).take M).drop N) := by
  have hgc : 81 ≤ gcap := hr.lens.1
  have HL : (((pileR s).take M).drop N).length = M - N := by rw [List.length_drop, List.length_take, pileR_length]; omega
  by_cases hce : gcap = N
  · refine ⟨0, by rw [if_pos hce], Or.inr ⟨g, 0, gcap - N, by rw [HL], fun j hj => ?_⟩⟩
    rw [HL] at hj
    omega
  · refine ⟨N * 4, by rw [if_neg hce], Or.inr ⟨g, N * 4, gcap - N, by rw [HL], ?_⟩⟩
    have := ((hr.row (pileR_length s).symm).sl.take M).drop' N (by rw [List.length_take, pileR_length]; omega)
    rw [Nat.zero_add] at this
    exact this

theorem BoxD.alloc2 (w : World) (s n : Int) (p : Option Addr) (l cap : Nat) (o : Obj) : BoxD ((w.alloc (.cells #[.int .i64 s, .int .i64 n, .slice p l cap] 26)).alloc o) w.heap.size s n p l cap :=
  (BoxD.new w s n p l cap).ex ((Ex.refl _).alloc _)
theorem l1Least_c (m : Int) (w : World) : Calls Try.prog 109 #[.int .i64 81, .int .i64 m] w fun e w' => e = .returned (.int .i64 (if 81 < m then 81 else m)) ∧ Ex w w' := by
  by_cases h : 81 < m
  all_goals
    go_enter Try.func109, Try.ntmps109
    go_wp2
    go_ret
    exact ⟨by simp [h], by repeat (first | exact Ex.refl _ | refine Ex.ext ?_ _ | refine Ex.alloc ?_ _ | refine Ex.drew ?_)⟩

theorem l4Lay_c (s n : Int) (cs : List C4) (p : Option Addr) (cap : Nat) (k : Int) (w : World) (hD : DealOk s n cs) (hk : 0 ≤ k) (hk2 : k ≤ 100) (hz : Src w (.slice p cs.length cap) cs) :
    Calls Try.prog 65 #[.agg #[.int .i64 s, .int .i64 n, .slice p cs.length cap], .int .i64 k] w fun e w' => ∃ g cap', e = .returned (.agg #[.int .i64 s, .int .i64 (layN n k), .slice (some ⟨g, 0, none⟩) (layL s n cs k).length cap']) ∧ Ex w w' ∧ Row w.heap.size w'.heap.size w' (some ⟨g, 0, none⟩) cap' (layL s n cs k) := by
  have hs0 := hD.s0
  have hs1 := hD.s1
  have hn0 := hD.n0
  have hn1 := hD.n1
  have hlen := hD.len
  have hbd := layN_bd hn0 hn1 hk
  have Hlay := Lib.hid (show layL s n cs k = cs ++ ((pileR s).take (layN n k).toNat).drop n.toNat from rfl)
  have hlayN : (if 81 < n + k then 81 else n + k) = layN n k := rfl
  generalize layL s n cs k = res at *
  generalize layN n k = m at *
  obtain ⟨N, rfl⟩ : ∃ N : Nat, n = N := ⟨n.toNat, by omega⟩
  obtain ⟨M, rfl⟩ : ∃ M : Nat, m = M := ⟨m.toNat, by omega⟩
  have hNM : N ≤ M := by omega
  have hNM' : (N : Int) ≤ (M : Int) := by omega
  have hM : M ≤ 81 := by omega
  have hwr : IntKind.i64.wrap ((N : Int) + k) = (N : Int) + k := IntWalk.i64_in _ (by omega)
  have Hz := Lib.hid hz
  have HL : (((pileR s).take M).drop N).length = M - N := by rw [List.length_drop, List.length_take, pileR_length]; omega
  rw [Int.toNat_natCast, Int.toNat_natCast] at Hlay
  have hres : res.length = cs.length + (M - N) := by rw [Hlay.out, List.length_append, HL]
  clear hz hD hbd
  go_enter Try.func65, Try.ntmps65
  go_wp2
  go_region_held3 (fun w' => w'.cell? ⟨w.heap.size, 0, none⟩ = some (.int .i64 s) ∧ w'.cell? ⟨w.heap.size, 1, none⟩ = some (.int .i64 N))
    (first | (go_simp; done) | go_keep)
    (first | (go_at_call 106; refine (l4Pile_c _ hs0 hs1 _).mono ?_; rintro e w' ⟨g, gcap, rfl, ⟨y, rfl⟩, hr⟩; have hgc : 81 ≤ gcap := hr.lens.1; have hgc1 : (M : Int) ≤ (gcap : Int) := (by omega); have hgc2 : M ≤ gcap := (by omega); have Hr := Lib.hid hr; clear hr) |
      (go_at_call 109; refine (l1Least_c _ _).mono ?_; rw [hlayN]; rintro e w' ⟨rfl, y2, rfl⟩; (try (have Hr := Lib.hid (Hr.out.ex ⟨y2, rfl⟩)))))
  all_goals
    have hr2 := Hr.out
    simp only [ext_ext, Ext.app_assoc, ext_of_drew] at hr2
    obtain ⟨off, hif, hsrc⟩ := pile_src hr2 hNM hM
    have HS := Lib.hid hsrc
    clear hsrc Hr hr2
    have hE1 : Ex ((w.alloc (.cells #[.int .i64 s, .int .i64 N, .slice p cs.length cap] 26)).alloc (.cells #[.int .i64 0, .int .i64 0, .slice none 0 0] 26)) (ext ((w.alloc (.cells #[.int .i64 s, .int .i64 N, .slice p cs.length cap] 26)).alloc (.cells #[.int .i64 0, .int .i64 0, .slice none 0 0] 26)) (y.app y2)) := ⟨_, rfl⟩
    have hb1 := BoxD.ex (BoxD.alloc2 w s N p cs.length cap (.cells #[.int .i64 0, .int .i64 0, .slice none 0 0] 26)) hE1
    have hz1 := Lib.hid ((Hz.out.ex (((Ex.refl w).alloc _).alloc _)).ex hE1)
    generalize ext ((w.alloc (.cells #[.int .i64 s, .int .i64 N, .slice p cs.length cap] 26)).alloc (.cells #[.int .i64 0, .int .i64 0, .slice none 0 0] 26)) (y.app y2) = W1 at *
    have hE0 := hE1
    obtain ⟨a0, a1, a2, a3⟩ := id hb1
    go_wp2
    go_region_held3 (fun w' => w'.cell? ⟨w.heap.size, 0, none⟩ = some (.int .i64 s) ∧ w'.cell? ⟨w.heap.size, 1, none⟩ = some (.int .i64 N) ∧ w'.cell? ⟨w.heap.size, 2, none⟩ = some (.slice p cs.length cap))
      (first | exact ⟨hb1.c0, hb1.c1, hb1.c2⟩ | exact ⟨(hb1.ex ((Ex.refl _).drew)).c0, (hb1.ex ((Ex.refl _).drew)).c1, (hb1.ex ((Ex.refl _).drew)).c2⟩ | (go_simp; done))
      (first | (go_at_call 110; refine (l2Own_s (cs := cs) (by omega) (hz1.out.ex (by exact by repeat (first | exact Ex.refl _ | refine Ex.ext ?_ _ | refine Ex.alloc ?_ _ | refine Ex.drew ?_)))).mono ?_; rintro e w3 ⟨g2, c2, rfl, hx, hr3⟩; have hb1 := hb1.ex (Ex.trans (by exact by repeat (first | exact Ex.refl _ | refine Ex.ext ?_ _ | refine Ex.alloc ?_ _ | refine Ex.drew ?_)) hx); have hE1 := hE1.trans (Ex.trans (by exact by repeat (first | exact Ex.refl _ | refine Ex.ext ?_ _ | refine Ex.alloc ?_ _ | refine Ex.drew ?_)) hx); have hk0 := Lib.hid (Ex.trans (by exact by repeat (first | exact Ex.refl _ | refine Ex.ext ?_ _ | refine Ex.alloc ?_ _ | refine Ex.drew ?_)) hx : Ex W1 w3); have Hr3 := Lib.hid hr3; clear hr3 hx) |
        (refine step_appsN (W0 := ((w.alloc (.cells #[.int .i64 s, .int .i64 N, .slice p cs.length cap] 26)).alloc (.cells #[.int .i64 0, .int .i64 0, .slice none 0 0] 26))) rfl (hE1.trans (by exact by repeat (first | exact Ex.refl _ | refine Ex.ext ?_ _ | refine Ex.alloc ?_ _ | refine Ex.drew ?_))) rfl _ _ rfl (.slice (some ⟨g2, 0, none⟩) cs.length c2) cs.length cs (by rfl) (own_base Hr3.out.own (Nat.le_trans hE0.below.size (Nat.le_refl _))) (M - N) (((pileR s).take M).drop N) HL (HS.out.ex (hk0.out.trans (by exact by repeat (first | exact Ex.refl _ | refine Ex.ext ?_ _ | refine Ex.alloc ?_ _ | refine Ex.drew ?_)))) (by omega) ?_; rintro p4 c4 w4 hown4 hp4 hnn4 ⟨x4, rfl⟩))
    cases p4 with
    | none => have := (hnn4 rfl).1; simp at this
    | some ad =>
      rcases hown4.2 with ⟨h1, h2⟩ | ⟨g4, cap2, cur, h1, h2, h3, h4⟩
      · simp at h1
      · simp at h1
        obtain ⟨rfl, rfl⟩ := h1
        go_wp2
        refine bodyPost_ret (v := .agg #[.int .i64 s, .int .i64 M, .slice (some ⟨g4, 0, none⟩) (cs.length + (M - N)) c4]) (by simp only [results, Try.results65]; go_simp) rfl ⟨g4, c4, by rw [hres], by repeat (first | exact Ex.refl _ | refine Ex.ext ?_ _ | refine Ex.alloc ?_ _ | refine Ex.drew ?_), ?_⟩
        rw [Hlay.out]
        have hfin : Row (((w.alloc (.cells #[.int .i64 s, .int .i64 N, .slice p cs.length cap] 26)).alloc (.cells #[.int .i64 0, .int .i64 0, .slice none 0 0] 26))).heap.size (ext ((w.alloc (.cells #[.int .i64 s, .int .i64 N, .slice p cs.length cap] 26)).alloc (.cells #[.int .i64 0, .int .i64 0, .slice none 0 0] 26)) x4).heap.size (ext ((w.alloc (.cells #[.int .i64 s, .int .i64 N, .slice p cs.length cap] 26)).alloc (.cells #[.int .i64 0, .int .i64 0, .slice none 0 0] 26)) x4) (some ⟨g4, 0, none⟩) c4 (cs ++ ((pileR s).take M).drop N) := ⟨by rw [List.length_append, HL]; exact hown4, hp4⟩
        exact Row.mono (Row.high (u := ((w.alloc (.cells #[.int .i64 s, .int .i64 N, .slice p cs.length cap] 26)).alloc (.cells #[.int .i64 0, .int .i64 0, .slice none 0 0] 26))) hfin (by simp) (Nat.le_refl _)) (by simp; omega) (by simp [ext_size])
end Go.Proofs.Ytkelmfdbcicojaa
