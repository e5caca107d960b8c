/- The reference's search for a map. -/
import Derived.Test.YtkmnnnhnajnefaaOwn
import Derived.Laws.AppendOwnNone
import Derived.Deep.RegionHeld3
import Derived.Test.YtkmnnnhnajnefaaSortP
import Derived.Test.YtkmnnnhnajnefaaLawH
import Derived.Test.YtkmnnnhnajnefaaPile
import Derived.Test.YtkmnnnhnajnefaaFindP
import Derived.Test.YtkmnnnhnajnefaaHand2
import Derived.Test.YtkmnnnhnajnefaaHeld
namespace Go.Proofs.Ytkmnnnhnajnefaa
set_option linter.unusedSimpArgs false
set_option linter.unusedVariables false
set_option maxHeartbeats 1000000
set_option maxRecDepth 100000
open Go.RowKit


/-- What is appended: nil, or a slice that reads as cards. -/
def Src (W : World) (v : Value) (news : List C4) : Prop := (v = .slice none 0 0 ∧ news = []) ∨ ∃ b off c, v = .slice (some ⟨b, off, none⟩) news.length c ∧ Sl W (some ⟨b, off, none⟩) news
theorem Src.ex {W W' : World} {v : Value} {news : List C4} (h : Src W v news) (k : Ex W W') : Src W' v news := by
  rcases h with h | ⟨b, off, c, h1, h2⟩
  · exact Or.inl h
  · exact Or.inr ⟨b, off, c, h1, h2.ex k⟩
theorem Src.of {W : World} {p : Option Addr} {cs : List C4} {n cap : Nat} (hz : Sl W p cs) (hl : cs.length = n) (hp : p = none → cap = 0) (hs : ∀ b o r, p = some ⟨b, o, r⟩ → r = none) : Src W (.slice p n cap) cs := by
  subst hl
  cases p with
  | none =>
    have : cs = [] := by
      cases cs with
      | nil => rfl
      | cons c cs => obtain ⟨b, o, e, _⟩ := hz 0 (by simp); cases e
    subst this
    exact Or.inl ⟨by rw [hp rfl]; rfl, rfl⟩
  | some a =>
    obtain ⟨b, o, s⟩ := a
    have := hs _ _ _ rfl
    subst this
    exact Or.inr ⟨b, o, cap, rfl, hz⟩

theorem oper_apps {W0 W : World} {B : Nat} (hB : B = W0.heap.size) (hE : Ex W0 W) {o : Oper} {a : Act} {K : Act → World → Prop} {Q : Exit → Act → World → Prop} (s x : Operand)
    (ho : o.op = .call { callee := .builtin .append, args := #[s, x], argTypes := #[22, 22] })
    (v : Value) (n : Nat) (xs : List C4) (hs : a.eval s = v) (hown : W.ownsRow B 36 4 v n (cellsOf xs))
    (m : Nat) (news : List C4) (hm : news.length = m) (hx : Src W (a.eval x) news) (h63 : n + m ≤ 1000000000000)
    (h : ∀ p cap w', w'.ownsRow B 36 4 (.slice p (n + m) cap) (n + m) (cellsOf (xs ++ news)) → (∀ a, p = some a → a.block < w'.heap.size) → (p = none → v = .slice none 0 0 ∧ m = 0) → Ex W0 w' → K (a.put o.dst (.slice p (n + m) cap)) w') :
    o.wp Try.prog a W K Q := by
  subst hB
  subst hm
  obtain ⟨i, z, hi, hzz, hsize, hby, hzs⟩ := rowC4.info
  rcases hx with ⟨hx, rfl⟩ | ⟨b, off, c, hx, hz⟩
  · have hrun := run_append_owned_none (P := Try.prog) (w := W) W0.heap.size 22 o.type 36 i 4 rowC4.under hi v n (cellsOf xs) hown
    obtain ⟨p, cap, rfl, hp⟩ := own_form hown
    have hk := h p cap W (by simpa using hown) hp (fun e => by
      subst e
      rcases hown.2 with ⟨h1, h2⟩ | ⟨g, cap', cur, h1, _⟩
      · exact ⟨h1, rfl⟩
      · simp at h1) hE
    unfold Oper.wp
    simp [execOp, ho, resolve, invoke, builtin, hs, hx, hrun, Result.andThen]
    have hk' : K (a.put o.dst (.slice p n cap)) W := by simpa using hk
    exact hk'
  · refine wp_append_own _ s x 22 ho W0.heap.size 36 i z 4 32 rowC4.under hi hzz hsize hby hzs rowC4.pos v n (cellsOf xs) hs hown ⟨b, off, none⟩ news.length c (cellsOf news) hx (cellsOf_length news) hz.cells (cellsOf_one news) (by unfold maxLen; omega) (by omega) hE.below.size (fun v' w' hown' hg hnil => ?_)
    have hbel : Below W0.heap.size W0 w' := hE.below.grown hg hE.below.size (fun k hk => (hown.lt k hk).1)
    obtain ⟨p, cap, rfl, hp⟩ := own_form hown'
    have hown2 := hown'
    rw [← cellsOf_append] at hown'
    refine h p cap w' hown' hp (fun e => ?_) (Ex.of_below hbel)
    subst e
    rcases hown2.2 with ⟨h1, h2⟩ | ⟨g, cap', cur, h1, _⟩
    · exact hnil.1 h1
    · simp at h1

theorem list_apps {W0 W : World} {B : Nat} (hB : B = W0.heap.size) (hE : Ex W0 W) {ops : Array Oper} {rest : List Oper} {o : Oper} {a : Act} {Q : Exit → Act → World → Prop} (hgd : o.guard = none) (s x : Operand)
    (ho : o.op = .call { callee := .builtin .append, args := #[s, x], argTypes := #[22, 22] })
    (v : Value) (n : Nat) (xs : List C4) (hs : a.eval s = v) (hown : W.ownsRow B 36 4 v n (cellsOf xs))
    (m : Nat) (news : List C4) (hm : news.length = m) (hx : Src W (a.eval x) news) (h63 : n + m ≤ 1000000000000)
    (h : ∀ p cap w', w'.ownsRow B 36 4 (.slice p (n + m) cap) (n + m) (cellsOf (xs ++ news)) → (∀ a, p = some a → a.block < w'.heap.size) → (p = none → v = .slice none 0 0 ∧ m = 0) → Ex W0 w' → wpList Try.prog ops Q rest (a.put o.dst (.slice p (n + m) cap)) w') :
    wpList Try.prog ops Q (o :: rest) a W :=
  wpList_plain hgd fun K hK => oper_apps hB hE s x ho v n xs hs hown m news hm hx h63 fun p cap w' h1 h2 h3 h4 => hK _ _ (h p cap w' h1 h2 h3 h4)
theorem step_appsN {W0 W : World} {B : Nat} (hB : B = W0.heap.size) (hE : Ex W0 W) {ops : Array Oper} {o : Oper} {a : Act} {K : Act → World → Prop} {Q : Exit → Act → World → Prop} {Ep : Prop} (hgd : o.guard = none) (s x : Operand)
    (ho : o.op = .call { callee := .builtin .append, args := #[s, x], argTypes := #[22, 22] })
    (v : Value) (n : Nat) (xs : List C4) (hs : a.eval s = v) (hown : W.ownsRow B 36 4 v n (cellsOf xs))
    (m : Nat) (news : List C4) (hm : news.length = m) (hx : Src W (a.eval x) news) (h63 : n + m ≤ 1000000000000)
    (h : ∀ p cap w', w'.ownsRow B 36 4 (.slice p (n + m) cap) (n + m) (cellsOf (xs ++ news)) → (∀ a, p = some a → a.block < w'.heap.size) → (p = none → v = .slice none 0 0 ∧ m = 0) → Ex W0 w' → K (a.put o.dst (.slice p (n + m) cap)) w') :
    if Region.wanted o (yielded ops a.tmps) = true then Oper.wp Try.prog o a W K Q else Ep := by
  have hw : Region.wanted o (yielded ops a.tmps) = true := by simp [Region.wanted, hgd]
  rw [if_pos hw]
  exact oper_apps hB hE s x ho v n xs hs hown m news hm hx h63 h

/-- A copy is never nil. -/
theorem l2Own_s {cs : List C4} {v : Value} {w : World} (hn : cs.length ≤ 1000000000) (hz : Src w v cs) :
    Calls Try.prog 108 #[v] w fun e w' => ∃ g cap', e = .returned (.slice (some ⟨g, 0, none⟩) cs.length cap') ∧ Ex w w' ∧ Row w.heap.size w'.heap.size w' (some ⟨g, 0, none⟩) cap' cs := by
  have Hz := Lib.hid hz
  clear hz
  have own0 := own_empty w 36 4
  go_enter Try.func108, Try.ntmps108
  go_wp2_with (at_builtin; refine list_apps (W0 := w) rfl (by repeat (first | exact Ex.refl _ | refine Ex.ext ?_ _ | refine Ex.alloc ?_ _ | refine Ex.drew ?_)) rfl _ _ rfl (.slice (some ⟨w.heap.size, 0, none⟩) 0 0) 0 [] rfl own0 cs.length cs rfl (Hz.out.ex (by repeat (first | exact Ex.refl _ | refine Ex.ext ?_ _ | refine Ex.alloc ?_ _ | refine Ex.drew ?_))) (by omega) ?_; intro p cap' w' hown hp hnn hE; simp only [Nat.zero_add, List.nil_append] at hown ⊢)
  go_ret
  cases p with
  | none => have := (hnn rfl).1; simp at this
  | some a =>
    rcases hown.2 with ⟨h1, h2⟩ | ⟨g, cap2, cur, h1, h2, h3, h4⟩
    · simp at h1
    · simp at h1
      obtain ⟨rfl, rfl⟩ := h1
      exact ⟨g, cap', rfl, hE, ⟨hown, hp⟩⟩

theorem Sl.drop' {w : World} {b o : Nat} {cs : List C4} (h : Sl w (some ⟨b, o, none⟩) cs) (i : Nat) (hi : i ≤ cs.length) : Sl w (some ⟨b, o + i * 4, none⟩) (cs.drop i) := fun j hj => by
  simp at hj
  obtain ⟨b', o', e, hb, h1, h2, h3, h4⟩ := h (i + j) (by omega)
  simp at e
  obtain ⟨rfl, rfl⟩ := e
  refine ⟨b, o + i * 4, rfl, hb, ?_, ?_, ?_, ?_⟩
  all_goals rw [List.getElem_drop]
  · rw [← h1]; congr 2; omega
  · rw [← h2]; congr 2; omega
  · rw [← h3]; congr 2; omega
  · rw [← h4]; congr 2; omega
end Go.Proofs.Ytkmnnnhnajnefaa

namespace Go.Proofs.Ytkmnnnhnajnefaa
set_option linter.unusedSimpArgs false
set_option linter.unusedVariables false
set_option maxHeartbeats 1000000
set_option maxRecDepth 100000
open Go.RowKit

theorem Sl.takeA {w : World} {p : Option Addr} {cs : List C4} (h : Sl w p cs) (n : Nat) : Sl w p (cs.take n) := fun i hi => by
  have hi' : i < cs.length := by simp at hi; omega
  have := h i hi'
  rw [List.getElem_take]
  exact this
theorem putC_skip {c : C4} : ∀ (cs : List C4) (k : Nat), k ≤ cs.length → (∀ j (h : j < cs.length), j < k → num cs[j] < num c) → putC cs c = cs.take k ++ putC (cs.drop k) c
  | _, 0, _, _ => by simp
  | [], k + 1, h, _ => by simp at h
  | z :: cs, k + 1, h, hf => by
    have h0 := hf 0 (by simp) (by omega)
    simp only [List.getElem_cons_zero] at h0
    rw [putC, if_pos h0, putC_skip cs k (by simpa using h) (fun j hj hk => by have := hf (j + 1) (by simpa using hj) (by omega); simpa using this)]
    simp
theorem putC_len (cs : List C4) (c : C4) : (putC cs c).length ≤ cs.length + 1 := by
  induction cs with
  | nil => simp [putC]
  | cons z cs ih =>
    unfold putC
    split
    · simp; omega
    · split <;> simp
theorem sl_one {W : World} {b : Nat} {c : C4} (hb : b < W.heap.size) (h0 : W.cell? ⟨b, 0, none⟩ = some (.int .i64 c.a)) (h1 : W.cell? ⟨b, 1, none⟩ = some (.int .i64 c.b)) (h2 : W.cell? ⟨b, 2, none⟩ = some (.int .i64 c.c)) (h3 : W.cell? ⟨b, 3, none⟩ = some (.int .i64 c.d)) : Sl W (some ⟨b, 0, none⟩) [c] := by
  intro i hi
  simp at hi
  subst hi
  exact ⟨b, 0, rfl, hb, h0, h1, h2, h3⟩
theorem own_some {W : World} {lo E size n cap : Nat} {p : Option Addr} {xs : List Value} (h : W.ownsRow lo E size (.slice p n cap) n xs) (hp : p ≠ none) : ∃ g, p = some ⟨g, 0, none⟩ ∧ RowV E size lo W g cap n xs := by
  rcases h.2 with ⟨h1, _⟩ | ⟨g, cap', cur, h1, h2⟩
  · simp at h1; exact absurd h1.1 hp
  · simp at h1
    obtain ⟨rfl, rfl⟩ := h1
    exact ⟨g, rfl, h⟩
theorem l2Less_r {a c : C4} {r : Bool} (h : decide (num a < num c) = r) (ha : Ok a) (hc : Ok c) (w : World) : Calls Try.prog 82 #[.agg #[.int .i64 a.a, .int .i64 a.b, .int .i64 a.c, .int .i64 a.d], .agg #[.int .i64 c.a, .int .i64 c.b, .int .i64 c.c, .int .i64 c.d]] w fun e w' => e = .returned (.bool r) ∧ Ex w w' := by
  rw [← h]; exact l2Less_c a c ha hc w

theorem own_exx {w w' : World} {lo E size n : Nat} {v : Value} {xs : List Value} (h : w.ownsRow lo E size v n xs) (k : Ex w w') : w'.ownsRow lo E size v n xs := by
  obtain ⟨x, rfl⟩ := k; exact own_ext h x
theorem l2Own_n2 {cs : List C4} {b o n cap : Nat} {w : World} (hl : cs.length = n) (hn : n ≤ 1000000000) (hz : Sl w (some ⟨b, o, none⟩) cs) :
    Calls Try.prog 108 #[.slice (some ⟨b, o, none⟩) n cap] w fun e w' => ∃ g cap', e = .returned (.slice (some ⟨g, 0, none⟩) n cap') ∧ Ex w w' ∧ Row w.heap.size w'.heap.size w' (some ⟨g, 0, none⟩) cap' cs := by
  subst hl; exact l2Own_s hn (Or.inr ⟨b, o, cap, rfl, hz⟩)

theorem l2Put_c (cs : List C4) (c : C4) (b o cap : Nat) (w : World) (hn : cs.length ≤ 100000000) (hcap : cs.length ≤ cap) (ho : ∀ z ∈ cs, Ok z) (hc : Ok c) (hz : Sl w (some ⟨b, o, none⟩) cs) :
    Calls Try.prog 101 #[.slice (some ⟨b, o, none⟩) cs.length cap, .agg #[.int .i64 c.a, .int .i64 c.b, .int .i64 c.c, .int .i64 c.d]] w fun e w' => ∃ g cap', e = .returned (.slice (some ⟨g, 0, none⟩) (putC cs c).length cap') ∧ Ex w w' ∧ RowV 36 4 w.heap.size w' g cap' (putC cs c).length (cellsOf (putC cs c)) := by
  have Hz := Lib.hid hz
  have Ho := Lib.hid ho
  have Hc := Lib.hid hc
  clear hz ho hc
  go_enter Try.func101, Try.ntmps101
  go_wp2
  go_loopw [5] (fun v wr => ∃ k : Nat, k ≤ cs.length ∧ v = .int .i64 k ∧ Ex (w.alloc (.cells #[.int .i64 c.a, .int .i64 c.b, .int .i64 c.c, .int .i64 c.d] 36)) wr ∧ ∀ j (h : j < cs.length), j < k → num cs[j] < num c) (fun v _ => cs.length - (intOf v).toNat)
  case atStart => exact ⟨0, Nat.zero_le _, rfl, Ex.refl _, fun j _ h => by omega⟩
  case round =>
    obtain ⟨k, hk, rfl, ⟨x, rfl⟩, hf⟩ := hrel
    have Hf := Lib.hid hf
    clear hf
    by_cases hlt : k < cs.length
    · obtain ⟨b', o', e', hb, h1, h2, h3, h4⟩ := Hz.out k hlt
      simp at e'
      obtain ⟨rfl, rfl⟩ := e'
      have hzo := Ho.out cs[k] (List.getElem_mem _)
      have Hd := Lib.hid (List.drop_eq_getElem_cons hlt)
      have Hg := Lib.hid (List.getElem?_eq_getElem hlt)
      have Hsk := Lib.hid (putC_skip cs k hk Hf.out)
      have hkz : (k : Int) < (cs.length : Int) := by omega
      generalize cs[k] = z at *
      cases hr : decide (num z < num c)
      · have Hnr := Lib.hid (show ¬ num z < num c from of_decide_eq_false hr)
        cases hq : ceq z c
        · have Hnq := Lib.hid (show ¬ z = c from fun e => by rw [(ceq_iff z c).2 e] at hq; cases hq)
          have HP := Lib.hid (show putC cs c = cs.take k ++ [c] ++ cs.drop k by rw [Hsk.out, Hd.out, putC, if_neg Hnr.out, if_neg Hnq.out, List.append_assoc]; rfl)
          go_upto_region 6 with (first | (refine region_quiet (by kernel_rfl) (by kernel_rfl) ?_; (repeat (go_big_quiet_step ((go_at_call 82; exact (l2Less_r hr hzo Hc.out _).mono (by rintro e w' ⟨rfl, y, rfl⟩; first | exact ⟨rfl, _, ext_ext _ _⟩ | exact ⟨rfl, _, by rw [ext_ext, Ext.app_assoc]⟩ | exact ⟨rfl, _, by rw [ext_ext, Ext.app_assoc, Ext.app_assoc]⟩ | exact ⟨rfl, _, by rw [ext_ext, Ext.app_assoc, Ext.app_assoc, Ext.app_assoc]⟩))))); refine wpQuiet_nil ?_; rintro _ ⟨x, rfl⟩) | (refine region_quiet (by kernel_rfl) (by kernel_rfl) ?_; (repeat (go_big_quiet_step (fail))); refine wpQuiet_nil ?_; rintro _ ⟨x, rfl⟩))
          have hcapk : k ≤ cap := by omega
          have hoff : ∃ off, (if cap = k then (some ⟨b, o, none⟩ : Option Addr) else some ⟨b, o + k * 4, none⟩) = some ⟨b, off, none⟩ ∧ Sl w (some ⟨b, off, none⟩) (cs.drop k) := by
            by_cases hce : cap = k
            · refine ⟨o, by rw [if_pos hce], fun j hj => ?_⟩
              rw [List.length_drop] at hj
              omega
            · exact ⟨_, by rw [if_neg hce], Hz.out.drop' k hk⟩
          obtain ⟨off, hif, hzd⟩ := hoff
          have Hzf := Lib.hid hzd
          clear hzd
          have hlt' : (cs.take k).length = k := by rw [List.length_take]; omega
          have hld : (cs.drop k).length = cs.length - k := by rw [List.length_drop]
          have hi1 : (k : Int) ≤ (cap : Int) := by omega
          have hi3 : (k : Int) ≤ (cs.length : Int) := by omega
          have hi7 : (cs.length : Int) ≤ (cap : Int) := by omega
          (try simp only [ext_ext])
          generalize hw0 : (ext (w.alloc (.cells #[.int .i64 c.a, .int .i64 c.b, .int .i64 c.c, .int .i64 c.d] 36)) _) = w0
          have hE0 : Ex (w.alloc (.cells #[.int .i64 c.a, .int .i64 c.b, .int .i64 c.c, .int .i64 c.d] 36)) w0 := ⟨_, hw0.symm⟩
          clear hw0
          have hB4 := Box4.new w c.a c.b c.c c.d
          have hEB : Ex w (w.alloc (.cells #[.int .i64 c.a, .int .i64 c.b, .int .i64 c.c, .int .i64 c.d] 36)) := by repeat (first | exact Ex.refl _ | refine Ex.ext ?_ _ | refine Ex.alloc ?_ _ | refine Ex.drew ?_)
          generalize (w.alloc (.cells #[.int .i64 c.a, .int .i64 c.b, .int .i64 c.c, .int .i64 c.d] 36)) = wB at *
          obtain ⟨b0, c0, cc1, c2, c3⟩ := hB4.ex hE0
          have hEw : Ex w w0 := Ex.trans hEB hE0
          go_region_held3 (fun w' => w'.cell? ⟨w.heap.size, 0, none⟩ = some (.int .i64 c.a) ∧ w'.cell? ⟨w.heap.size, 1, none⟩ = some (.int .i64 c.b) ∧ w'.cell? ⟨w.heap.size, 2, none⟩ = some (.int .i64 c.c) ∧ w'.cell? ⟨w.heap.size, 3, none⟩ = some (.int .i64 c.d))
            (first | go_keep | (have hq4 := hB4.ex (by assumption); exact ⟨hq4.c0, hq4.c1, hq4.c2, hq4.c3⟩))
            (first | (go_at_call 108; refine (l2Own_n2 hlt' (by omega) ((Hz.out.takeA k).ex (hEw.trans (by exact by repeat (first | exact Ex.refl _ | refine Ex.ext ?_ _ | refine Ex.alloc ?_ _ | refine Ex.drew ?_))))).mono ?_; rintro e w1 ⟨g1, c1, rfl, hx, hr1⟩; have hown := own_base hr1.own (Ex.below (hE0.trans (by exact by repeat (first | exact Ex.refl _ | refine Ex.ext ?_ _ | refine Ex.alloc ?_ _ | refine Ex.drew ?_)))).size; have hE := Ex.trans (hE0.trans (by exact by repeat (first | exact Ex.refl _ | refine Ex.ext ?_ _ | refine Ex.alloc ?_ _ | refine Ex.drew ?_))) hx) |
              (refine step_appsN (W0 := wB) rfl (hE.trans (by exact by repeat (first | exact Ex.refl _ | refine Ex.ext ?_ _ | refine Ex.alloc ?_ _ | refine Ex.drew ?_))) (by rfl) _ _ (by rfl) (.slice (some ⟨g1, 0, none⟩) k c1) k (cs.take k) (by rfl) (by rw [hlt'] at hown; exact own_exx hown (by exact by repeat (first | exact Ex.refl _ | refine Ex.ext ?_ _ | refine Ex.alloc ?_ _ | refine Ex.drew ?_))) 1 [c] (by rfl) (Or.inr ⟨_, 0, 1, rfl, by first | (refine sl_one ?_ ?_ ?_ ?_ ?_ <;> (go_simp; done)) | (refine Sl.ex ?_ (hx.trans (by exact by repeat (first | exact Ex.refl _ | refine Ex.ext ?_ _ | refine Ex.alloc ?_ _ | refine Ex.drew ?_))); refine sl_one ?_ ?_ ?_ ?_ ?_ <;> (go_simp; done))⟩) (by omega) ?_; intro p2 c2 w2 hown2 hp2 hnn2 hE2) |
              (refine step_appsN (W0 := wB) rfl (hE2.trans (by exact by repeat (first | exact Ex.refl _ | refine Ex.ext ?_ _ | refine Ex.alloc ?_ _ | refine Ex.drew ?_))) (by rfl) _ _ (by rfl) _ (k + 1) (cs.take k ++ [c]) (by rfl) (own_exx hown2 (by exact by repeat (first | exact Ex.refl _ | refine Ex.ext ?_ _ | refine Ex.alloc ?_ _ | refine Ex.drew ?_))) (cs.length - k) (cs.drop k) hld (Or.inr ⟨b, off, cap - k, by rw [hld]; rfl, Hzf.out.ex (hEB.trans (hE2.trans (by exact by repeat (first | exact Ex.refl _ | refine Ex.ext ?_ _ | refine Ex.alloc ?_ _ | refine Ex.drew ?_))))⟩) (by omega) ?_; intro p3 c3 w3 hown3 hp3 hnn3 hE3))
          all_goals
            go_wp2
            go_ret
            have hne : p3 ≠ none := fun e => by have := (hnn3 e).1; simp at this
            have hl3 : (cs.take k ++ [c] ++ cs.drop k).length = k + 1 + (cs.length - k) := by simp only [List.length_append, hlt', hld, List.length_cons, List.length_nil]
            rw [HP.out, hl3]
            obtain ⟨g3, rfl, hr3⟩ := own_some hown3 hne
            exact ⟨g3, c3, rfl, hEB.trans hE3, hr3.low hEB.below.size⟩
        · have Hzc := Lib.hid (show z = c from (ceq_iff z c).1 hq)
          go_upto_region 5 with (first | (refine region_quiet (by kernel_rfl) (by kernel_rfl) ?_; (repeat (go_big_quiet_step ((go_at_call 82; exact (l2Less_r hr hzo Hc.out _).mono (by rintro e w' ⟨rfl, y, rfl⟩; first | exact ⟨rfl, _, ext_ext _ _⟩ | exact ⟨rfl, _, by rw [ext_ext, Ext.app_assoc]⟩ | exact ⟨rfl, _, by rw [ext_ext, Ext.app_assoc, Ext.app_assoc]⟩ | exact ⟨rfl, _, by rw [ext_ext, Ext.app_assoc, Ext.app_assoc, Ext.app_assoc]⟩))))); refine wpQuiet_nil ?_; rintro _ ⟨x, rfl⟩) | (refine region_quiet (by kernel_rfl) (by kernel_rfl) ?_; (repeat (go_big_quiet_step (fail))); refine wpQuiet_nil ?_; rintro _ ⟨x, rfl⟩))
          go_wp2_with ((go_at_call 108; refine (l2Own_n2 rfl (by omega) (Hz.out.ex (by exact by repeat (first | exact Ex.refl _ | refine Ex.ext ?_ _ | refine Ex.alloc ?_ _ | refine Ex.drew ?_)))).mono ?_; rintro e w1 ⟨g1, c1, rfl, hx, hr1⟩))
          go_ret
          have hE1 := Ex.trans (show Ex w _ by exact by repeat (first | exact Ex.refl _ | refine Ex.ext ?_ _ | refine Ex.alloc ?_ _ | refine Ex.drew ?_)) hx
          have e : putC cs c = cs := by
            rw [Hsk.out, Hd.out, putC, if_neg (show ¬ num z < num c by have := Hnr.out; omega), if_pos Hzc.out, ← Hd.out, List.take_append_drop]
          rw [e]
          exact ⟨g1, c1, rfl, hE1, own_base hr1.own (Ex.below (show Ex w _ by exact by repeat (first | exact Ex.refl _ | refine Ex.ext ?_ _ | refine Ex.alloc ?_ _ | refine Ex.drew ?_))).size⟩
      · go_wp2_with (refine region_quiet (by kernel_rfl) (by kernel_rfl) ?_; (repeat (go_big_quiet_step ((go_at_call 82; exact (l2Less_r hr hzo Hc.out _).mono (by rintro e w' ⟨rfl, y, rfl⟩; first | exact ⟨rfl, _, ext_ext _ _⟩ | exact ⟨rfl, _, by rw [ext_ext, Ext.app_assoc]⟩ | exact ⟨rfl, _, by rw [ext_ext, Ext.app_assoc, Ext.app_assoc]⟩ | exact ⟨rfl, _, by rw [ext_ext, Ext.app_assoc, Ext.app_assoc, Ext.app_assoc]⟩))))); refine wpQuiet_nil ?_; rintro _ ⟨x, rfl⟩)
        go_roundw
        case rel =>
          refine ⟨k + 1, by omega, by go_num, by repeat (first | exact Ex.refl _ | refine Ex.ext ?_ _ | refine Ex.alloc ?_ _ | refine Ex.drew ?_), fun j hj hjk => ?_⟩
          by_cases e : j = k
          · subst e
            have := Hg.out
            rw [List.getElem?_eq_getElem hj] at this
            rw [Option.some.inj this]
            exact of_decide_eq_true hr
          · exact Hf.out j hj (by omega)
        case measure => simp [intOf]; omega
    · have Hkn := Lib.hid (show k = cs.length by omega)
      have hnlt : ¬ ((k : Int) < (cs.length : Int)) := by omega
      have Hsk := Lib.hid (putC_skip cs k hk Hf.out)
      have HP := Lib.hid (show putC cs c = cs.take k ++ [c] ++ cs.drop k by rw [Hsk.out, show cs.drop k = [] by rw [Hkn.out, List.drop_length]]; simp [putC])
      go_upto_region 6 with (first | (refine region_quiet (by kernel_rfl) (by kernel_rfl) ?_; (repeat (go_big_quiet_step (fail))); refine wpQuiet_nil ?_; rintro _ ⟨x, rfl⟩))
      have hcapk : k ≤ cap := by omega
      have hoff : ∃ off, (if cap = k then (some ⟨b, o, none⟩ : Option Addr) else some ⟨b, o + k * 4, none⟩) = some ⟨b, off, none⟩ ∧ Sl w (some ⟨b, off, none⟩) (cs.drop k) := by
        by_cases hce : cap = k
        · refine ⟨o, by rw [if_pos hce], fun j hj => ?_⟩
          rw [List.length_drop] at hj
          omega
        · exact ⟨_, by rw [if_neg hce], Hz.out.drop' k hk⟩
      obtain ⟨off, hif, hzd⟩ := hoff
      have Hzf := Lib.hid hzd
      clear hzd
      have hlt' : (cs.take k).length = k := by rw [List.length_take]; omega
      have hld : (cs.drop k).length = cs.length - k := by rw [List.length_drop]
      have hi1 : (k : Int) ≤ (cap : Int) := by omega
      have hi3 : (k : Int) ≤ (cs.length : Int) := by omega
      have hi7 : (cs.length : Int) ≤ (cap : Int) := by omega
      (try simp only [ext_ext])
      generalize hw0 : (ext (w.alloc (.cells #[.int .i64 c.a, .int .i64 c.b, .int .i64 c.c, .int .i64 c.d] 36)) _) = w0
      have hE0 : Ex (w.alloc (.cells #[.int .i64 c.a, .int .i64 c.b, .int .i64 c.c, .int .i64 c.d] 36)) w0 := ⟨_, hw0.symm⟩
      clear hw0
      have hB4 := Box4.new w c.a c.b c.c c.d
      have hEB : Ex w (w.alloc (.cells #[.int .i64 c.a, .int .i64 c.b, .int .i64 c.c, .int .i64 c.d] 36)) := by repeat (first | exact Ex.refl _ | refine Ex.ext ?_ _ | refine Ex.alloc ?_ _ | refine Ex.drew ?_)
      generalize (w.alloc (.cells #[.int .i64 c.a, .int .i64 c.b, .int .i64 c.c, .int .i64 c.d] 36)) = wB at *
      obtain ⟨b0, c0, cc1, c2, c3⟩ := hB4.ex hE0
      have hEw : Ex w w0 := Ex.trans hEB hE0
      go_region_held3 (fun w' => w'.cell? ⟨w.heap.size, 0, none⟩ = some (.int .i64 c.a) ∧ w'.cell? ⟨w.heap.size, 1, none⟩ = some (.int .i64 c.b) ∧ w'.cell? ⟨w.heap.size, 2, none⟩ = some (.int .i64 c.c) ∧ w'.cell? ⟨w.heap.size, 3, none⟩ = some (.int .i64 c.d))
        (first | go_keep | (have hq4 := hB4.ex (by assumption); exact ⟨hq4.c0, hq4.c1, hq4.c2, hq4.c3⟩))
        (first | (go_at_call 108; refine (l2Own_n2 hlt' (by omega) ((Hz.out.takeA k).ex (hEw.trans (by exact by repeat (first | exact Ex.refl _ | refine Ex.ext ?_ _ | refine Ex.alloc ?_ _ | refine Ex.drew ?_))))).mono ?_; rintro e w1 ⟨g1, c1, rfl, hx, hr1⟩; have hown := own_base hr1.own (Ex.below (hE0.trans (by exact by repeat (first | exact Ex.refl _ | refine Ex.ext ?_ _ | refine Ex.alloc ?_ _ | refine Ex.drew ?_)))).size; have hE := Ex.trans (hE0.trans (by exact by repeat (first | exact Ex.refl _ | refine Ex.ext ?_ _ | refine Ex.alloc ?_ _ | refine Ex.drew ?_))) hx) |
          (refine step_appsN (W0 := wB) rfl (hE.trans (by exact by repeat (first | exact Ex.refl _ | refine Ex.ext ?_ _ | refine Ex.alloc ?_ _ | refine Ex.drew ?_))) (by rfl) _ _ (by rfl) (.slice (some ⟨g1, 0, none⟩) k c1) k (cs.take k) (by rfl) (by rw [hlt'] at hown; exact own_exx hown (by exact by repeat (first | exact Ex.refl _ | refine Ex.ext ?_ _ | refine Ex.alloc ?_ _ | refine Ex.drew ?_))) 1 [c] (by rfl) (Or.inr ⟨_, 0, 1, rfl, by first | (refine sl_one ?_ ?_ ?_ ?_ ?_ <;> (go_simp; done)) | (refine Sl.ex ?_ (hx.trans (by exact by repeat (first | exact Ex.refl _ | refine Ex.ext ?_ _ | refine Ex.alloc ?_ _ | refine Ex.drew ?_))); refine sl_one ?_ ?_ ?_ ?_ ?_ <;> (go_simp; done))⟩) (by omega) ?_; intro p2 c2 w2 hown2 hp2 hnn2 hE2) |
          (refine step_appsN (W0 := wB) rfl (hE2.trans (by exact by repeat (first | exact Ex.refl _ | refine Ex.ext ?_ _ | refine Ex.alloc ?_ _ | refine Ex.drew ?_))) (by rfl) _ _ (by rfl) _ (k + 1) (cs.take k ++ [c]) (by rfl) (own_exx hown2 (by exact by repeat (first | exact Ex.refl _ | refine Ex.ext ?_ _ | refine Ex.alloc ?_ _ | refine Ex.drew ?_))) (cs.length - k) (cs.drop k) hld (Or.inr ⟨b, off, cap - k, by rw [hld]; rfl, Hzf.out.ex (hEB.trans (hE2.trans (by exact by repeat (first | exact Ex.refl _ | refine Ex.ext ?_ _ | refine Ex.alloc ?_ _ | refine Ex.drew ?_))))⟩) (by omega) ?_; intro p3 c3 w3 hown3 hp3 hnn3 hE3))
      all_goals
        go_wp2
        go_ret
        have hne : p3 ≠ none := fun e => by have := (hnn3 e).1; simp at this
        have hl3 : (cs.take k ++ [c] ++ cs.drop k).length = k + 1 + (cs.length - k) := by simp only [List.length_append, hlt', hld, List.length_cons, List.length_nil]
        rw [HP.out, hl3]
        obtain ⟨g3, rfl, hr3⟩ := own_some hown3 hne
        exact ⟨g3, c3, rfl, hEB.trans hE3, hr3.low hEB.below.size⟩
end Go.Proofs.Ytkmnnnhnajnefaa

namespace Go.Proofs.Ytkmnnnhnajnefaa
set_option linter.unusedSimpArgs false
set_option linter.unusedVariables false
set_option maxHeartbeats 2000000
set_option maxRecDepth 100000
open Go.RowKit

theorem colN_take {cs : List C4} {k t : Nat} {v : Int} (hk : k < cs.length) : colN (cs.take (k + 1)) t v = colN (cs.take k) t v + (if trt cs[k] t = v then 1 else 0) := by
  unfold colN
  rw [List.take_add_one, List.getElem?_eq_getElem hk, List.countP_append]
  simp
theorem colN_le (cs : List C4) (t : Nat) (v : Int) : colN cs t v ≤ cs.length := List.countP_le_length
theorem l5Column_c (cs : List C4) (t : Nat) (p : Option Addr) (cap : Nat) (w : World) (hn : cs.length ≤ 27) (ht : t < 4) (hok : ∀ z ∈ cs, Ok z) (hz : Sl w p cs) :
    Calls Try.prog 102 #[.slice p cs.length cap, .int .i64 t] w fun e w' => e = .returned (.agg #[.int .i64 (colN cs t 0), .int .i64 (colN cs t 1), .int .i64 (colN cs t 2)]) ∧ Ex w w' := by
  have Hz := Lib.hid hz
  have Hok := Lib.hid hok
  clear hz hok
  go_enter Try.func102, Try.ntmps102
  go_wp2
  go_loopw [6] (fun v wr => ∃ (k x y u : Nat), k ≤ cs.length ∧ v = .int .i64 k ∧ x ≤ k ∧ y ≤ k ∧ u ≤ k ∧ wr = (w.alloc (.cells #[.int .i64 0, .int .i64 0, .int .i64 0] 37)).alloc (.cells #[.int .i64 ((x : Nat) : Int), .int .i64 ((y : Nat) : Int), .int .i64 ((u : Nat) : Int)] 37) ∧ colN (cs.take k) t 0 = x ∧ colN (cs.take k) t 1 = y ∧ colN (cs.take k) t 2 = u) (fun v _ => cs.length - (intOf v).toNat)
  case atStart => exact ⟨0, 0, 0, 0, Nat.zero_le _, rfl, Nat.le_refl _, Nat.le_refl _, Nat.le_refl _, rfl, rfl, rfl, rfl⟩
  case round =>
    obtain ⟨k, x, y, u, hk, rfl, hx, hy, hu, rfl, h0, h1, h2⟩ := hrel
    have H0 := Lib.hid h0
    have H1 := Lib.hid h1
    have H2 := Lib.hid h2
    clear h0 h1 h2
    by_cases hlt : k < cs.length
    · have hE : Ex w ((w.alloc (.cells #[.int .i64 0, .int .i64 0, .int .i64 0] 37)).alloc (.cells #[.int .i64 ((x : Nat) : Int), .int .i64 ((y : Nat) : Int), .int .i64 ((u : Nat) : Int)] 37)) := by repeat (first | exact Ex.refl _ | refine Ex.ext ?_ _ | refine Ex.alloc ?_ _ | refine Ex.drew ?_)
      obtain ⟨b, o, rfl, hb, c1, c2, c3, c4⟩ := Hz.out k hlt
      have hokz := Hok.out _ (List.getElem_mem hlt)
      have S0 := Lib.hid (colN_take (t := t) (v := 0) hlt)
      have S1 := Lib.hid (colN_take (t := t) (v := 1) hlt)
      have S2 := Lib.hid (colN_take (t := t) (v := 2) hlt)
      have hb3 := trt_ok hokz t
      generalize cs[k] = z at *
      have hv : trt z t = 0 ∨ trt z t = 1 ∨ trt z t = 2 := by omega
      have ht' : t = 0 ∨ t = 1 ∨ t = 2 ∨ t = 3 := by omega
      have hcap : b < w.heap.size := hb
      rcases ht' with rfl | rfl | rfl | rfl
      all_goals
        simp only [trt] at hv
        have Hv := Lib.hid hv
        rcases hv with hv | hv | hv
      all_goals
        (first | rw [hv] at c1 | skip)
        (first | rw [hv] at c2 | skip)
        (first | rw [hv] at c3 | skip)
        (first | rw [hv] at c4 | skip)
        have Hv' := Lib.hid hv
        clear hv
        go_wp2
        go_roundw
        case rel =>
          have q0 := S0.out
          have q1 := S1.out
          have q2 := S2.out
          rw [H0.out] at q0
          rw [H1.out] at q1
          rw [H2.out] at q2
          simp only [trt, Hv'.out] at q0 q1 q2
          first
          | exact ⟨k + 1, x + 1, y, u, by omega, by go_num, by omega, by omega, by omega, by simp only [Int.natCast_add, Int.natCast_one], by rw [q0]; rfl, by rw [q1]; rfl, by rw [q2]; rfl⟩
          | exact ⟨k + 1, x, y + 1, u, by omega, by go_num, by omega, by omega, by omega, by simp only [Int.natCast_add, Int.natCast_one], by rw [q0]; rfl, by rw [q1]; rfl, by rw [q2]; rfl⟩
          | exact ⟨k + 1, x, y, u + 1, by omega, by go_num, by omega, by omega, by omega, by simp only [Int.natCast_add, Int.natCast_one], by rw [q0]; rfl, by rw [q1]; rfl, by rw [q2]; rfl⟩
        case measure => simp [intOf]; omega
    · have : k = cs.length := by omega
      subst this
      go_wp2
      refine bodyPost_ret (v := .agg #[.int .i64 (x : Int), .int .i64 (y : Int), .int .i64 (u : Int)]) (by simp only [results, Try.results102]; go_simp) rfl ⟨?_, by repeat (first | exact Ex.refl _ | refine Ex.ext ?_ _ | refine Ex.alloc ?_ _ | refine Ex.drew ?_)⟩
      have e0 := H0.out
      have e1 := H1.out
      have e2 := H2.out
      rw [List.take_length] at e0 e1 e2
      rw [e0, e1, e2]

theorem l5Same_c (cs ds : List C4) (p q : Option Addr) (cap cap2 : Nat) (w : World) (hn : cs.length ≤ 1000) (hm : ds.length ≤ 1000) (hz : Sl w p cs) (hy : Sl w q ds) :
    Calls Try.prog 90 #[.slice p cs.length cap, .slice q ds.length cap2] w fun e w' => e = .returned (.bool (decide (cs = ds))) ∧ Ex w w' := by
  have Hz := Lib.hid hz
  have Hy := Lib.hid hy
  clear hz hy
  go_enter Try.func90, Try.ntmps90
  go_wp2
  go_loopw [5] (fun v wr => ∃ k : Nat, k ≤ cs.length ∧ k ≤ ds.length ∧ v = .int .i64 k ∧ Ex w wr ∧ cs.take k = ds.take k) (fun v _ => cs.length - (intOf v).toNat)
  case atStart => exact ⟨0, Nat.zero_le _, Nat.zero_le _, rfl, Ex.refl _, rfl⟩
  case round =>
    obtain ⟨k, hk, hk2, rfl, ⟨x, rfl⟩, hf⟩ := hrel
    have Hf := Lib.hid hf
    clear hf
    by_cases hlt : k < cs.length
    · by_cases hlt2 : k < ds.length
      · obtain ⟨b, o, rfl, hb, c1, c2, c3, c4⟩ := Hz.out k hlt
        obtain ⟨b2, o2, rfl, hb2, d1, d2, d3, d4⟩ := Hy.out k hlt2
        have St := Lib.hid (show cs.take (k + 1) = cs.take k ++ [cs[k]] by rw [List.take_add_one, List.getElem?_eq_getElem hlt]; rfl)
        have Su := Lib.hid (show ds.take (k + 1) = ds.take k ++ [ds[k]] by rw [List.take_add_one, List.getElem?_eq_getElem hlt2]; rfl)
        have Hne := Lib.hid (show ¬ cs[k] = ds[k] → ¬ cs = ds from fun h e => h (by subst e; rfl))
        generalize cs[k] = a at *
        generalize ds[k] = c at *
        cases hc : ceq a c
        all_goals go_wp2_with (refine region_quiet (by kernel_rfl) (by kernel_rfl) ?_; (repeat (go_big_quiet_step (fail))); refine wpQuiet_nil ?_; rintro _ ⟨x, rfl⟩)
        · go_ret
          exact ⟨ret_bool (decide_eq_false (Hne.out ((ceq_false a c).1 hc))).symm, by repeat (first | exact Ex.refl _ | refine Ex.ext ?_ _ | refine Ex.alloc ?_ _ | refine Ex.drew ?_)⟩
        · go_roundw
          case rel => exact ⟨k + 1, by omega, by omega, by go_num, by repeat (first | exact Ex.refl _ | refine Ex.ext ?_ _ | refine Ex.alloc ?_ _ | refine Ex.drew ?_), by rw [St.out, Su.out, Hf.out, (ceq_iff a c).1 hc]⟩
          case measure => simp [intOf]; omega
      · have hne : ¬ cs = ds := fun e => by subst e; exact hlt2 hlt
        have hd : decide (cs = ds) = false := decide_eq_false hne
        have hnl : ((cs.length : Int) == (ds.length : Int)) = false := beq_eq_false_iff_ne.2 (by omega)
        have Hd := Lib.hid hd
        clear hd hne
        go_wp2
        go_ret
        exact ⟨ret_bool (by first | (rw [Hd.out]; done) | (rw [Hd.out]; simp; done) | (rw [Hd.out]; simp; omega)), by repeat (first | exact Ex.refl _ | refine Ex.ext ?_ _ | refine Ex.alloc ?_ _ | refine Ex.drew ?_)⟩
    · have hkc : k = cs.length := by omega
      subst hkc
      have Hd := Lib.hid (show decide (cs = ds) = decide ((cs.length : Int) = (ds.length : Int)) from by
        rw [decide_eq_decide]
        constructor
        · intro e; rw [e]
        · intro e
          have h1 := Hf.out
          rwa [List.take_length, List.take_of_length_le (by omega)] at h1)
      go_wp2
      go_ret
      exact ⟨ret_bool (by first | (rw [Hd.out]; done) | (rw [Hd.out]; rfl) | (rw [Hd.out, Bool.eq_iff_iff]; simp)), by repeat (first | exact Ex.refl _ | refine Ex.ext ?_ _ | refine Ex.alloc ?_ _ | refine Ex.drew ?_)⟩

theorem handR_take {f : Nat → Int} {cs : List C4} {k : Nat} (hk : k < cs.length) : handR f (cs.take (k + 1)) = putC (handR f (cs.take k)) (img f cs[k]) := by
  unfold handR sortU
  rw [List.take_add_one, List.getElem?_eq_getElem hk, List.map_append, List.foldl_append]
  rfl
theorem handR_ok {f : Nat → Int} {cs : List C4} (hm : mapB f = true) (hok : ∀ z ∈ cs, Ok z) : ∀ z ∈ handR f cs, Ok z := by
  have hok' : ∀ z ∈ cs.map (img f), Ok z := fun z hz => by
    obtain ⟨c, hc, rfl⟩ := List.mem_map.1 hz
    exact ok_img hm (hok c hc)
  intro z hz
  exact hok' z ((mem_sortU hok' z).1 hz)
theorem handR_len (f : Nat → Int) (cs : List C4) : (handR f cs).length ≤ cs.length := by
  have : ∀ (l a : List C4), (l.foldl putC a).length ≤ a.length + l.length := by
    intro l
    induction l with
    | nil => intro a; exact Nat.le_refl _
    | cons x l ih =>
      intro a
      have := ih (putC a x)
      have := putC_len a x
      rw [List.foldl_cons, List.length_cons]
      omega
  have := this (cs.map (img f)) []
  rw [List.length_map] at this
  simpa [handR, sortU] using this
theorem l5Hand_c (f : Nat → Int) (cs : List C4) (p : Option Addr) (cap : Nat) (w : World) (hm : mapB f = true) (hn : cs.length ≤ 27) (hok : ∀ z ∈ cs, Ok z) (hz : Sl w p cs) :
    Calls Try.prog 91 #[.agg (mcells f), .slice p cs.length cap] w fun e w' => ∃ g cap', e = .returned (.slice (some ⟨g, 0, none⟩) (handR f cs).length cap') ∧ Ex w w' ∧ Sl w' (some ⟨g, 0, none⟩) (handR f cs) := by
  have Hz := Lib.hid hz
  have Hok := Lib.hid hok
  have Hm := Lib.hid hm
  clear hz hok hm
  go_enter Try.func91, Try.ntmps91
  go_wp2
  go_loopw [5, 6] (fun u v wr => ∃ (k g n cap' : Nat), k ≤ cs.length ∧ v = .int .i64 k ∧ n = (handR f (cs.take k)).length ∧ n ≤ cap' ∧ u = .slice (some ⟨g, 0, none⟩) n cap' ∧ Ex (w.alloc (.cells (mcells f) 44)) wr ∧ Sl wr (some ⟨g, 0, none⟩) (handR f (cs.take k))) (fun _ v _ => cs.length - (intOf v).toNat)
  case atStart => exact ⟨0, w.heap.size + 1, 0, 0, Nat.zero_le _, rfl, rfl, Nat.le_refl _, rfl, by repeat (first | exact Ex.refl _ | refine Ex.ext ?_ _ | refine Ex.alloc ?_ _ | refine Ex.drew ?_), fun i hi => by simp [handR, sortU] at hi⟩
  case round =>
    obtain ⟨k, g, n, cap', hk, rfl, hnl, hcap, rfl, ⟨x, rfl⟩, hsl⟩ := hrel
    have Hsl := Lib.hid hsl
    have Hnl := Lib.hid hnl
    clear hsl hnl
    by_cases hlt : k < cs.length
    · obtain ⟨b, o, rfl, hb, c1, c2, c3, c4⟩ := Hz.out k hlt
      have Hokz := Lib.hid (Hok.out _ (List.getElem_mem hlt))
      have St := Lib.hid (handR_take (f := f) hlt)
      have Hoks := Lib.hid (handR_ok (f := f) (cs := cs.take k) Hm.out (fun z hz => Hok.out z (List.mem_of_mem_take hz)))
      have hlen := handR_len f (cs.take k)
      rw [List.length_take] at hlen
      generalize cs[k] = z at *
      have HP := Lib.hid (show ∀ W : World, Sl W (some ⟨g, 0, none⟩) (handR f (cs.take k)) → Calls Try.prog 101 #[.slice (some ⟨g, 0, none⟩) n cap', .agg #[.int .i64 (img f z).a, .int .i64 (img f z).b, .int .i64 (img f z).c, .int .i64 (img f z).d]] W fun e w' => ∃ g2 cap2, e = .returned (.slice (some ⟨g2, 0, none⟩) (handR f (cs.take (k + 1))).length cap2) ∧ Ex W w' ∧ RowV 36 4 W.heap.size w' g2 cap2 (handR f (cs.take (k + 1))).length (cellsOf (handR f (cs.take (k + 1)))) from fun W hW => by
        rw [Hnl.out, St.out]
        exact l2Put_c _ _ _ _ _ _ (by omega) (by rw [← Hnl.out]; exact hcap) Hoks.out (ok_img Hm.out Hokz.out) hW)
      go_wp2_with (refine region_tail 7 (by kernel_rfl) (by kernel_rfl) ?_; simp only [List.take_succ_cons, List.take_zero, List.drop_succ_cons, List.drop_zero]; (repeat (go_big_quiet_step ((go_at_call 70; exact (l5Card_c Hm.out Hokz.out _).mono (by rintro e w' ⟨rfl, y, rfl⟩; exact ⟨rfl, by simp only [ext_ext, Ext.app_assoc]; exact ⟨_, rfl⟩⟩))))); refine wpQuiet_nil ?_; rintro _ ⟨x, rfl⟩)
      refine (HP.out _ (Hsl.out.ex ⟨x, by rw [ext_ext]⟩)).mono ?_
      rintro e w2 ⟨g2, cap2, rfl, hx2, hr2⟩
      go_wp2
      go_roundw
      case rel =>
        exact ⟨k + 1, g2, _, cap2, by omega, by go_num, rfl, hr2.lens.1, rfl, Ex.trans ⟨_, rfl⟩ hx2, (hr2.row rfl).sl⟩
      case measure => simp [intOf]; omega
    · have : k = cs.length := by omega
      subst this
      go_wp2
      go_ret
      have hs := Hsl.out
      rw [List.take_length] at hs
      refine ⟨g, cap', ?_, Ex.trans (by exact by repeat (first | exact Ex.refl _ | refine Ex.ext ?_ _ | refine Ex.alloc ?_ _ | refine Ex.drew ?_)) ⟨_, rfl⟩, hs⟩
      rw [Hnl.out, List.take_length]
      rfl

def fewB (cs : List C4) : Bool := handB cs && decide (cs.length ≤ 6)
theorem l5Few_c (cs : List C4) (p : Option Addr) (cap : Nat) (w : World) (hn : cs.length ≤ 1000000000000) (hz : Sl w p cs) :
    Calls Try.prog 53 #[.slice p cs.length cap] w fun e w' => e = .returned (.bool (fewB cs)) ∧ Ex w w' := by
  have H := Lib.hid (l2Hand_c cs p cap w hn hz)
  clear hz
  cases h : handB cs
  all_goals
    rw [h] at H
    go_enter Try.func53, Try.ntmps53
    go_wp2_with (go_at_call 61; refine H.out.mono ?_; rintro e w1 ⟨rfl, hx1⟩)
    go_ret
    exact ⟨ret_bool (by unfold fewB; rw [h]; first | rfl | (simp; done) | (rw [Bool.true_and, decide_eq_decide]; omega)), hx1⟩
theorem isFew_c (cs : List C4) (p : Option Addr) (cap : Nat) (w : World) (hn : cs.length ≤ 1000000000000) (hz : Sl w p cs) :
    Calls Try.prog 55 #[.slice p cs.length cap] w fun e w' => e = .returned (.bool (fewB cs)) ∧ Ex w w' := by
  have H := Lib.hid (implIsHand_c cs p cap w hn hz)
  clear hz
  cases h : handB cs
  all_goals
    rw [h] at H
    go_enter Try.func55, Try.ntmps55
    go_wp2_with (go_at_call 65; refine H.out.mono ?_; rintro e w1 ⟨rfl, hx1⟩)
    go_ret
    exact ⟨ret_bool (by unfold fewB; rw [h]; first | rfl | (simp; done) | (rw [Bool.true_and, decide_eq_decide]; omega)), hx1⟩
end Go.Proofs.Ytkmnnnhnajnefaa

namespace Go.Proofs.Ytkmnnnhnajnefaa
set_option linter.unusedSimpArgs false
set_option linter.unusedVariables false
set_option maxHeartbeats 400000
set_option maxRecDepth 100000
open Go.RowKit

def fitQ (g h : List C4) (a b : Nat) (p : List Nat) : Bool :=
  colN g a 0 == colN h b ((p.getD 0 0 : Nat) : Int) && (colN g a 1 == colN h b ((p.getD 1 0 : Nat) : Int) && colN g a 2 == colN h b ((p.getD 2 0 : Nat) : Int))
theorem fitB_q (g h : List C4) (f : Nat → Int) (i : Nat) : fitB g h f i = fitQ g h (natM f i) i := rfl
theorem six_len : six.length = 6 := by decide
theorem six_lt : ∀ p ∈ six, p.length = 3 ∧ p.getD 0 0 < 3 ∧ p.getD 1 0 < 3 ∧ p.getD 2 0 < 3 := by decide
theorem many_len : many.length = 24 := by decide +kernel
theorem many_lt : ∀ p ∈ many, p.length = 4 ∧ p.getD 0 0 < 4 ∧ p.getD 1 0 < 4 ∧ p.getD 2 0 < 4 ∧ p.getD 3 0 < 4 := by decide +kernel
theorem inP_cells {w : World} {v : Value} {P : List Nat} (h : InP w v P) : ∃ gi ci, v = .slice (some ⟨gi, 0, none⟩) P.length ci ∧ P.length ≤ ci ∧ gi < w.heap.size ∧ ∀ j, j < P.length → w.cell? ⟨gi, j, none⟩ = some (.int .i64 ((P.getD j 0 : Nat) : Int)) := by
  obtain ⟨gi, ci, A, h1, h2, h3, h4⟩ := h
  refine ⟨gi, ci, h1, h2, (Array.getElem?_eq_some_iff.1 h3).1, fun j hj => ?_⟩
  obtain ⟨b, o, e, hb, hc⟩ := sli_of h3 h4 j (by simpa using hj)
  simp at e
  obtain ⟨rfl, rfl⟩ := e
  rw [Nat.zero_add] at hc
  rw [hc]
  simp [natInts, List.getD_eq_getElem?_getD, List.getElem?_eq_getElem hj]
theorem filter_take {α : Type} {q : α → Bool} {L : List α} {i : Nat} (hi : i < L.length) : (L.take (i + 1)).filter q = (L.take i).filter q ++ (if q L[i] then [L[i]] else []) := by
  rw [List.take_add_one, List.getElem?_eq_getElem hi, List.filter_append]
  congr 1
  simp only [Option.toList]
  cases h : q L[i]
  · rw [List.filter_cons_of_neg (by simp [h])]; rfl
  · rw [List.filter_cons_of_pos h]; rfl
/-- What the walk on a column says, at a slice. -/
structure ColAt (w : World) (p : Option Addr) (n cap t : Nat) (c : Int → Nat) : Prop where
  call : ∀ W, Ex w W → Calls Try.prog 102 #[.slice p n cap, .int .i64 t] W fun e w' => e = .returned (.agg #[.int .i64 (c 0), .int .i64 (c 1), .int .i64 (c 2)]) ∧ Ex W w'
theorem colAt_use {w W : World} {p : Option Addr} {n cap t : Nat} {c : Int → Nat} (h : ColAt w p n cap t c) (hW : Ex w W) : Calls Try.prog 102 #[.slice p n cap, .int .i64 t] W fun e w' => e = .returned (.agg #[.int .i64 (c 0), .int .i64 (c 1), .int .i64 (c 2)]) ∧ Ex W w' := h.call W hW
theorem l5Fits_c (gs hs : List C4) (fr to : Nat) (p q : Option Addr) (cap cap2 : Nat) (w : World) (hn : gs.length ≤ 27) (hm : hs.length ≤ 27) (hf : fr < 4) (ht : to < 4) (hok : ∀ z ∈ gs, Ok z) (hok2 : ∀ z ∈ hs, Ok z) (hz : Sl w p gs) (hy : Sl w q hs) :
    Calls Try.prog 92 #[.slice p gs.length cap, .int .i64 fr, .slice q hs.length cap2, .int .i64 to] w fun e w' => ∃ g N cap, e = .returned (.slice (some ⟨g, 0, none⟩) N cap) ∧ N ≤ cap ∧ Ex w w' ∧ SlP w' g N (six.filter (fitQ gs hs fr to)) ∧ w.heap.size ≤ g := by
  have HP := Lib.hid (show ∀ W, Calls Try.prog 74 #[.int .i64 3] W fun e w' => ∃ g N cap, e = .returned (.slice (some ⟨g, 0, none⟩) N cap) ∧ N ≤ cap ∧ Ex W w' ∧ SlP w' g N six ∧ W.heap.size ≤ g from fun W => l5Perms_c 3 (by omega) W)
  have HG : ColAt w p gs.length cap fr (colN gs fr) := ⟨fun W h => l5Column_c gs fr p cap W hn hf hok (hz.ex h)⟩
  have HH : ColAt w q hs.length cap2 to (colN hs to) := ⟨fun W h => l5Column_c hs to q cap2 W hm ht hok2 (hy.ex h)⟩
  have hcb : ∀ v, colN gs fr v ≤ 27 := fun v => Nat.le_trans (colN_le _ _ _) hn
  have hcb2 : ∀ v, colN hs to v ≤ 27 := fun v => Nat.le_trans (colN_le _ _ _) hm
  have Hcb := Lib.hid hcb
  have Hcb2 := Lib.hid hcb2
  obtain ⟨F, hF⟩ : ∃ F, fitQ gs hs fr to = F := ⟨_, rfl⟩
  have HF := Lib.hid (show ∀ p, F p = (colN gs fr 0 == colN hs to ((p.getD 0 0 : Nat) : Int) && (colN gs fr 1 == colN hs to ((p.getD 1 0 : Nat) : Int) && colN gs fr 2 == colN hs to ((p.getD 2 0 : Nat) : Int))) from fun p => by rw [← hF]; rfl)
  rw [hF]
  clear hcb hcb2 hz hy hok hok2 hF
  generalize colN gs fr = ca at *
  generalize colN hs to = cb at *
  go_enter Try.func92, Try.ntmps92
  have hE : Ex w w := Ex.refl w
  go_wp2_with (first | (go_at_call 74; refine (HP.out _).mono ?_; rintro e w1 ⟨g1, N1, cap1, rfl, hc1, hx, hs1, hg0⟩; have hg0 : w.heap.size < g1 := (by simp at hg0; omega); have hE := hE.trans ((by exact by repeat (first | exact Ex.refl _ | refine Ex.ext ?_ _ | refine Ex.alloc ?_ _ | refine Ex.drew ?_) : Ex w _).trans hx); have hr0 := RowV.ex (RowV.start w 29 1) hx; clear hx) |
    (go_at_call 102; refine Calls.mono (colAt_use (by assumption) (hE.trans (by exact by repeat (first | exact Ex.refl _ | refine Ex.ext ?_ _ | refine Ex.alloc ?_ _ | refine Ex.drew ?_)))) ?_; rintro e w2 ⟨rfl, hx⟩; have hE := hE.trans hx; have hs1 := hs1.ex hx; have hr0 := hr0.ex hx; clear hx))
  have A0 : ((w2.alloc (.cells #[.int .i64 (ca 0), .int .i64 (ca 1), .int .i64 (ca 2)] 37)).alloc (.cells #[.int .i64 (cb 0), .int .i64 (cb 1), .int .i64 (cb 2)] 37)).cell? ⟨w2.heap.size, 0, none⟩ = some (.int .i64 (ca 0)) := by go_simp
  have A1 : ((w2.alloc (.cells #[.int .i64 (ca 0), .int .i64 (ca 1), .int .i64 (ca 2)] 37)).alloc (.cells #[.int .i64 (cb 0), .int .i64 (cb 1), .int .i64 (cb 2)] 37)).cell? ⟨w2.heap.size, 1, none⟩ = some (.int .i64 (ca 1)) := by go_simp
  have A2 : ((w2.alloc (.cells #[.int .i64 (ca 0), .int .i64 (ca 1), .int .i64 (ca 2)] 37)).alloc (.cells #[.int .i64 (cb 0), .int .i64 (cb 1), .int .i64 (cb 2)] 37)).cell? ⟨w2.heap.size, 2, none⟩ = some (.int .i64 (ca 2)) := by go_simp
  have B0 : ((w2.alloc (.cells #[.int .i64 (ca 0), .int .i64 (ca 1), .int .i64 (ca 2)] 37)).alloc (.cells #[.int .i64 (cb 0), .int .i64 (cb 1), .int .i64 (cb 2)] 37)).cell? ⟨w2.heap.size + 1, 0, none⟩ = some (.int .i64 (cb 0)) := by go_simp
  have B1 : ((w2.alloc (.cells #[.int .i64 (ca 0), .int .i64 (ca 1), .int .i64 (ca 2)] 37)).alloc (.cells #[.int .i64 (cb 0), .int .i64 (cb 1), .int .i64 (cb 2)] 37)).cell? ⟨w2.heap.size + 1, 1, none⟩ = some (.int .i64 (cb 1)) := by go_simp
  have B2 : ((w2.alloc (.cells #[.int .i64 (ca 0), .int .i64 (ca 1), .int .i64 (ca 2)] 37)).alloc (.cells #[.int .i64 (cb 0), .int .i64 (cb 1), .int .i64 (cb 2)] 37)).cell? ⟨w2.heap.size + 1, 2, none⟩ = some (.int .i64 (cb 2)) := by go_simp
  have hEW : Ex w2 ((w2.alloc (.cells #[.int .i64 (ca 0), .int .i64 (ca 1), .int .i64 (ca 2)] 37)).alloc (.cells #[.int .i64 (cb 0), .int .i64 (cb 1), .int .i64 (cb 2)] 37)) := by repeat (first | exact Ex.refl _ | refine Ex.ext ?_ _ | refine Ex.alloc ?_ _ | refine Ex.drew ?_)
  have hszW : w2.heap.size + 1 < ((w2.alloc (.cells #[.int .i64 (ca 0), .int .i64 (ca 1), .int .i64 (ca 2)] 37)).alloc (.cells #[.int .i64 (cb 0), .int .i64 (cb 1), .int .i64 (cb 2)] 37)).heap.size := by simp
  generalize ((w2.alloc (.cells #[.int .i64 (ca 0), .int .i64 (ca 1), .int .i64 (ca 2)] 37)).alloc (.cells #[.int .i64 (cb 0), .int .i64 (cb 1), .int .i64 (cb 2)] 37)) = W0 at *
  have HB := Lib.hid (show ∀ v : Nat, v < 3 → W0.cell? ⟨w2.heap.size + 1, v, none⟩ = some (.int .i64 (cb (v : Int))) from fun v hv => by
    have h' : v = 0 ∨ v = 1 ∨ v = 2 := by omega
    rcases h' with rfl | rfl | rfl
    · exact B0
    · exact B1
    · exact B2)
  have HE0 := Lib.hid (hE.trans hEW)
  have HR0 := Lib.hid (hr0.ex hEW)
  have HS := Lib.hid (hs1.ex hEW)
  have hN1 : N1 = 6 := by rw [hs1.1]; exact six_len
  have hg1 := (HS.out).2.1
  have hw2 := hr0.blk.2
  clear hE hr0 hs1 hEW B0 B1 B2
  subst hN1
  go_loopw [9, 13] (fun u v wr => ∃ (k g N cap : Nat) (vs : List Value), k ≤ 6 ∧ v = .int .i64 k ∧ u = .slice (some ⟨g, 0, none⟩) N cap ∧ N = ((six.take k).filter F).length ∧ Ex w wr ∧ KI W0 wr ∧ W0.heap.size ≤ wr.heap.size ∧ (∀ b, b < W0.heap.size → b ≠ w.heap.size → wr.heap[b]? = W0.heap[b]?) ∧ (g = w.heap.size ∨ W0.heap.size ≤ g) ∧ RowV 29 1 w.heap.size wr g cap N vs ∧ AllP wr vs ((six.take k).filter F)) (fun _ v _ => 6 - (intOf v).toNat)
  case atStart => exact ⟨0, w.heap.size, 0, 0, [], Nat.zero_le _, rfl, rfl, rfl, HE0.out, (Ex.refl _).ki, Nat.le_refl _, fun b _ _ => rfl, Or.inl rfl, HR0.out, AllP.nil _⟩
  case round =>
    obtain ⟨k, g, N, cap, vs, hk, rfl, rfl, hN, hE, hKI, hsz, hfr, hg, hrow, hall⟩ := hrel
    have HE := Lib.hid hE
    have HR := Lib.hid hrow
    have HA := Lib.hid hall
    have HN := Lib.hid hN
    have HK := Lib.hid hKI
    have HFr := Lib.hid hfr
    have hN6 : N ≤ 6 := by
      rw [hN]
      exact Nat.le_trans (List.length_filter_le _ _) (by rw [List.length_take]; omega)
    clear hE hrow hall hN hKI hfr
    by_cases hlt : k < 6
    · have hkl : k < six.length := by rw [six_len]; exact hlt
      obtain ⟨v0, hc0, hin0⟩ := HS.out.2.2 k hkl
      obtain ⟨hp3, hp0, hp1, hp2⟩ := six_lt _ (List.getElem_mem hkl)
      have HFt := Lib.hid (filter_take (q := F) hkl)
      have HFk := Lib.hid (HF.out six[k])
      generalize six[k] = P at *
      have Hin := Lib.hid (hin0.ki HK.out)
      obtain ⟨gi, ci, rfl, hci, hgi, hcl⟩ := inP_cells Hin.out
      rw [hp3] at hci
      have q0 := hcl 0 (by omega)
      have q1 := hcl 1 (by omega)
      have q2 := hcl 2 (by omega)
      have b0 := HB.out _ hp0
      have b1 := HB.out _ hp1
      have b2 := HB.out _ hp2
      have tr : ∀ b j, b < W0.heap.size → b ≠ w.heap.size → wr.cell? ⟨b, j, none⟩ = W0.cell? ⟨b, j, none⟩ := fun b j h1 h2 => by simp only [World.cell?]; rw [HFr.out b h1 h2]
      rw [← tr _ _ (by omega) (by omega)] at b0 b1 b2 hc0
      have a0 := (tr w2.heap.size 0 (by omega) (by omega)).trans A0
      have a1 := (tr w2.heap.size 1 (by omega) (by omega)).trans A1
      have a2 := (tr w2.heap.size 2 (by omega) (by omega)).trans A2
      have hl1 : g1 < wr.heap.size := by omega
      have hl2 : w2.heap.size < wr.heap.size := by omega
      have hl3 : w2.heap.size + 1 < wr.heap.size := by omega
      clear tr hcl hin0
      generalize P.getD 0 0 = p0 at *
      generalize P.getD 1 0 = p1 at *
      generalize P.getD 2 0 = p2 at *
      generalize ca 0 = x0 at *
      generalize ca 1 = x1 at *
      generalize ca 2 = x2 at *
      generalize cb (p0 : Int) = y0 at *
      generalize cb (p1 : Int) = y1 at *
      generalize cb (p2 : Int) = y2 at *
      rw [hp3] at Hin
      rw [hp3] at hc0
      by_cases e0 : x0 = y0
      · subst e0
        by_cases e1 : x1 = y1
        · subst e1
          by_cases e2 : x2 = y2
          · subst e2
            have Hye := Lib.hid (show F P = true by rw [HFk.out]; simp)
            clear HFk
            go_wp2_with (first | (refine region_quiet (by kernel_rfl) (by kernel_rfl) ?_; (repeat (go_big_quiet_step (fail))); refine wpQuiet_nil ?_; rintro _ ⟨x, rfl⟩) | (at_builtin; refine wp_app rowP (nW := _) (by simp [go_sem]) rfl _ _ rfl rfl (HR.out.ex (by exact by repeat (first | exact Ex.refl _ | refine Ex.ext ?_ _ | refine Ex.alloc ?_ _ | refine Ex.drew ?_))) 1 1 [.slice (some ⟨gi, 0, none⟩) 3 ci] rfl rfl (oneP _ rfl) (by omega) ?c2 ?c3 ?_; (case c2 => (unfold maxLen; omega)); (case c3 => omega); intro g8 cap8 w8 hr8 hK8 hg8))
            go_roundw
            case rel =>
              have hx : Ex wr _ := Ex.ext (Ex.refl wr) x
              have hrx := HR.out.ex hx
              have hKx := KI.trans (Ex.ki hx) (by obtain ⟨cur, h1, _⟩ := hrx.curT; exact hK8.ki h1 (by decide))
              have hb := HR.out.blk
              have hxs := hx.below.size
              have hKs := hK8.size
              refine ⟨k + 1, g8, N + 1, cap8, _, by omega, by go_num, rfl, ?_, Keeps.ex (HE.out.trans hx) hK8 hb.1, HK.out.trans hKx, by omega, fun b hb1 hb2 => ((hK8.block b (by omega) (by omega)).trans (hx.below.block b (by omega))).trans (HFr.out b hb1 hb2), by omega, hr8, ?_⟩
              · rw [HFt.out, HN.out, Hye.out]; simp
              · rw [HFt.out, Hye.out]
                exact AllP.snoc (HA.out.ki hKx) (Hin.out.ki hKx)
            case measure => simp [intOf]; omega
          · have n2 : ((x2 : Int) == (y2 : Int)) = false := beq_eq_false_iff_ne.2 (by omega)
            have Hno := Lib.hid (show F P = false by rw [HFk.out]; simp [e2])
            clear HFk
            go_wp2_with (refine region_quiet (by kernel_rfl) (by kernel_rfl) ?_; (repeat (go_big_quiet_step (fail))); refine wpQuiet_nil ?_; rintro _ ⟨x, rfl⟩)
            go_roundw
            case rel =>
              have hx : Ex wr _ := Ex.ext (Ex.refl wr) x
              refine ⟨k + 1, g, N, cap, vs, by omega, by go_num, rfl, ?_, HE.out.trans hx, HK.out.trans hx.ki, Nat.le_trans hsz hx.below.size, fun b hb1 hb2 => (hx.below.block b (by omega)).trans (HFr.out b hb1 hb2), hg, HR.out.ex hx, ?_⟩
              · rw [HFt.out, HN.out, Hno.out]; simp
              · rw [HFt.out, Hno.out]; simpa using HA.out.ki hx.ki
            case measure => simp [intOf]; omega
        · have n1 : ((x1 : Int) == (y1 : Int)) = false := beq_eq_false_iff_ne.2 (by omega)
          have Hno := Lib.hid (show F P = false by rw [HFk.out]; simp [e1])
          clear HFk
          go_wp2_with (refine region_quiet (by kernel_rfl) (by kernel_rfl) ?_; (repeat (go_big_quiet_step (fail))); refine wpQuiet_nil ?_; rintro _ ⟨x, rfl⟩)
          go_roundw
          case rel =>
            have hx : Ex wr _ := Ex.ext (Ex.refl wr) x
            refine ⟨k + 1, g, N, cap, vs, by omega, by go_num, rfl, ?_, HE.out.trans hx, HK.out.trans hx.ki, Nat.le_trans hsz hx.below.size, fun b hb1 hb2 => (hx.below.block b (by omega)).trans (HFr.out b hb1 hb2), hg, HR.out.ex hx, ?_⟩
            · rw [HFt.out, HN.out, Hno.out]; simp
            · rw [HFt.out, Hno.out]; simpa using HA.out.ki hx.ki
          case measure => simp [intOf]; omega
      · have n0 : ((x0 : Int) == (y0 : Int)) = false := beq_eq_false_iff_ne.2 (by omega)
        have Hno := Lib.hid (show F P = false by rw [HFk.out]; simp [e0])
        clear HFk
        go_wp2_with (refine region_quiet (by kernel_rfl) (by kernel_rfl) ?_; (repeat (go_big_quiet_step (fail))); refine wpQuiet_nil ?_; rintro _ ⟨x, rfl⟩)
        go_roundw
        case rel =>
          have hx : Ex wr _ := Ex.ext (Ex.refl wr) x
          refine ⟨k + 1, g, N, cap, vs, by omega, by go_num, rfl, ?_, HE.out.trans hx, HK.out.trans hx.ki, Nat.le_trans hsz hx.below.size, fun b hb1 hb2 => (hx.below.block b (by omega)).trans (HFr.out b hb1 hb2), hg, HR.out.ex hx, ?_⟩
          · rw [HFt.out, HN.out, Hno.out]; simp
          · rw [HFt.out, Hno.out]; simpa using HA.out.ki hx.ki
        case measure => simp [intOf]; omega
    · have : k = 6 := by omega
      subst this
      have HT := Lib.hid (show six.take 6 = six by rw [← six_len, List.take_length])
      rw [HT.out] at HN HA
      go_wp2
      go_ret
      exact ⟨g, N, cap, rfl, HR.out.lens.1, HE.out, ⟨HN.out, HR.out.blk.2, fun i hi => row_inp HR.out HA.out HN.out hi⟩, HR.out.blk.1⟩
end Go.Proofs.Ytkmnnnhnajnefaa

namespace Go.Proofs.Ytkmnnnhnajnefaa
set_option linter.unusedSimpArgs false
set_option linter.unusedVariables false
set_option maxHeartbeats 2000000
set_option maxRecDepth 100000
open Go.RowKit

theorem isRow_of {w : World} {b n : Nat} {A : Array Value} {T : TypeId} (h : w.heap[b]? = some (.cells A T (0, 0))) (hn : A.size = n) : isRow w b n = true := by
  unfold isRow; rw [h]; simp [hn]
theorem rowAt_of {w : World} {b : Nat} {A : Array Value} {T : TypeId} (h : w.heap[b]? = some (.cells A T (0, 0))) : rowAt w b = A := by
  unfold rowAt; rw [h]
theorem isRow_blk {w : World} {b n : Nat} (h : isRow w b n = true) : ∃ A T, w.heap[b]? = some (.cells A T (0, 0)) ∧ A.size = n := by
  unfold isRow at h
  split at h
  · rename_i A T hb; exact ⟨A, T, hb, eq_of_beq h⟩
  · simp at h
theorem heap_setRow {w : World} {b : Nat} {A B : Array Value} {T : TypeId} (h : w.heap[b]? = some (.cells B T (0, 0))) : (w.setRow b A).heap[b]? = some (.cells A T (0, 0)) := by
  simp [World.setRow, Array.getElem?_modify, h]
theorem rowAt_setRow {w : World} {b : Nat} {A : Array Value} (h : isRow w b 16 = true) : rowAt (w.setRow b A) b = A := by
  obtain ⟨B, T, hb, _⟩ := isRow_blk h
  exact rowAt_of (heap_setRow hb)
theorem isRow_setRow {w : World} {b n : Nat} {A : Array Value} (h : isRow w b 16 = true) (hA : A.size = n) : isRow (w.setRow b A) b n = true := by
  obtain ⟨B, T, hb, _⟩ := isRow_blk h
  exact isRow_of (heap_setRow hb) hA
theorem setRow_keeps {w : World} {b : Nat} {A : Array Value} : Keeps b w (w.setRow b A) :=
  ⟨rfl, rfl, rfl, by simp [World.setRow], fun k hk hg => by simp [World.setRow, Array.getElem?_modify, Ne.symm hg]⟩
theorem setRow_size {w : World} {b : Nat} {A : Array Value} : (w.setRow b A).heap.size = w.heap.size := by simp [World.setRow]
theorem keep2 {wr w' : World} {A : Array Value} {bm : Nat} (h : Ex wr w') (h1 : isRow wr bm 16 = true) (h2 : rowAt wr bm = A) : isRow w' bm 16 = true ∧ rowAt w' bm = A := by
  obtain ⟨B, T, hb, hs⟩ := isRow_blk h1
  have hb' := (h.below.block bm (Array.getElem?_eq_some_iff.1 hb).1).trans hb
  exact ⟨isRow_of hb' hs, by rw [rowAt_of hb', ← h2, rowAt_of hb]⟩
/-- What a search answers, as a map and whether there is one. -/
def ansM (o : Option (Nat → Int)) : Nat → Int := o.getD mzero
theorem l5Try_0 (gs hs : List C4) (p q : Option Addr) (cap cap2 : Nat) (w : World) (f : Nat → Int) (hm : mapB f = true) (hn : gs.length ≤ 27) (hn2 : hs.length ≤ 27) (hok : ∀ z ∈ gs, Ok z) (hz : Sl w p gs) (hy : Sl w q hs) :
    Calls Try.prog 75 #[.slice p gs.length cap, .slice q hs.length cap2, .agg (mcells f), .int .i64 4] w fun e w' => e = .returned (.tuple #[.agg (mcells f), .bool (decide (handR f gs = hs))]) ∧ Ex w w' := by
  have HH := Lib.hid (fun W (h : Ex w W) => l5Hand_c f gs p cap W hm hn hok (hz.ex h))
  have hrl := handR_len f gs
  have HSm := Lib.hid (fun (g c : Nat) W (h : Ex w W) (hs1 : Sl W (some ⟨g, 0, none⟩) (handR f gs)) => l5Same_c (handR f gs) hs (some ⟨g, 0, none⟩) q c cap2 W (by omega) (by omega) hs1 (hy.ex h))
  obtain ⟨b, hb⟩ : ∃ b, decide (handR f gs = hs) = b := ⟨_, rfl⟩
  rw [hb] at HSm ⊢
  clear hb hz hy hok hm
  go_enter Try.func75, Try.ntmps75
  go_wp2
  have hE0 : Ex w ((w.alloc (.cells (mcells f) 44)).alloc (.cells (mcells mzero) 44)) := by repeat (first | exact Ex.refl _ | refine Ex.ext ?_ _ | refine Ex.alloc ?_ _ | refine Ex.drew ?_)
  have hi1 : isRow ((w.alloc (.cells (mcells f) 44)).alloc (.cells (mcells mzero) 44)) w.heap.size 16 = true := by go_simp
  have hi2 : rowAt ((w.alloc (.cells (mcells f) 44)).alloc (.cells (mcells mzero) 44)) w.heap.size = mcells f := by go_simp
  (refine region_headH 6 (fun w' => isRow w' w.heap.size 16 = true ∧ rowAt w' w.heap.size = mcells f) (by kernel_rfl) (by kernel_rfl) (by first | (go_simp; done) | go_keep) (fun hHeld => ?_); simp only [List.size_toArray, List.length_cons, List.length_nil, Nat.zero_add, Nat.reduceAdd])
  (refine headH_take (i := 0) (v := ?_) (by kernel_rfl) (by omega) (by kernel_rfl) (by kernel_rfl) (fun _ _ _ h => h) (Or.inl ⟨by rfl, ?_⟩) (by assumption) ?_; rotate_left 1; (focus (intro w hSw; (try dsimp only at hSw); (try simp only [opOf_succ, opOf_zero]); go_simp <;> with_reducible rfl)); (try simp only [opOf_succ, opOf_zero, Act.put, List.setIfInBounds_toArray, List.set_cons_zero, List.set_cons_succ]))
  (refine headH_take (i := 1) (v := ?_) (by kernel_rfl) (by omega) (by kernel_rfl) (by kernel_rfl) (fun _ _ _ h => h) (Or.inl ⟨by rfl, ?_⟩) (by assumption) ?_; rotate_left 1; (focus (intro w hSw; (try dsimp only at hSw); (try simp only [opOf_succ, opOf_zero]); go_simp <;> with_reducible rfl)); (try simp only [opOf_succ, opOf_zero, Act.put, List.setIfInBounds_toArray, List.set_cons_zero, List.set_cons_succ]))
  (refine headH_take (i := 2) (v := ?_) (by kernel_rfl) (by omega) (by kernel_rfl) (by kernel_rfl) (fun _ _ _ h => h) (Or.inl ⟨by rfl, ?_⟩) (by assumption) ?_; rotate_left 1; (focus (intro w hSw; (try dsimp only at hSw); (try simp only [opOf_succ, opOf_zero]); go_simp <;> with_reducible rfl)); (try simp only [opOf_succ, opOf_zero, Act.put, List.setIfInBounds_toArray, List.set_cons_zero, List.set_cons_succ]))
  (refine headH_take (i := 4) (v := ?_) (by kernel_rfl) (by omega) (by kernel_rfl) (by kernel_rfl) (fun _ _ _ h => h) (Or.inl ⟨by rfl, ?_⟩) (by assumption) ?_; rotate_left 1; (focus (intro w hSw; (try dsimp only at hSw); (try simp only [opOf_succ, opOf_zero]); go_simp <;> with_reducible rfl)); (try simp only [opOf_succ, opOf_zero, Act.put, List.setIfInBounds_toArray, List.set_cons_zero, List.set_cons_succ]))
  (refine headH_one (i := 3) (by kernel_rfl) (by omega) (by simp only [List.length_cons, List.length_nil]; omega) (fun Kx hKx => ?_); (try simp (config := { proj := false }) only [opOf_succ, opOf_zero]); (go_simp; go_at_call 91; refine (HH.out _ (hE0.trans (by exact by repeat (first | exact Ex.refl _ | refine Ex.ext ?_ _ | refine Ex.alloc ?_ _ | refine Ex.drew ?_)))).mono ?_; rintro e w3 ⟨g3, c3, rfl, hx, hs3⟩; have hx3 := Ex.trans (by exact by repeat (first | exact Ex.refl _ | refine Ex.ext ?_ _ | refine Ex.alloc ?_ _ | refine Ex.drew ?_)) hx; have hS3 := keep2 hx3 hi1 hi2; have hE3 := hE0.trans hx3; go_wp2_with fail); refine hKx.out _ _ hS3 (fun hHeld => ?_); clear hKx Kx; (try simp only [Act.put, List.setIfInBounds_toArray, List.set_cons_zero, List.set_cons_succ]))
  (refine headH_one (i := 5) (by kernel_rfl) (by omega) (by simp only [List.length_cons, List.length_nil]; omega) (fun Kx hKx => ?_); (try simp (config := { proj := false }) only [opOf_succ, opOf_zero]); (go_simp; go_at_call 90; refine (HSm.out _ _ _ (hE3.trans (by exact by repeat (first | exact Ex.refl _ | refine Ex.ext ?_ _ | refine Ex.alloc ?_ _ | refine Ex.drew ?_))) (hs3.ex (by exact by repeat (first | exact Ex.refl _ | refine Ex.ext ?_ _ | refine Ex.alloc ?_ _ | refine Ex.drew ?_)))).mono ?_; rintro e w5 ⟨rfl, hx⟩; have hx5 := hx3.trans (Ex.trans (by exact by repeat (first | exact Ex.refl _ | refine Ex.ext ?_ _ | refine Ex.alloc ?_ _ | refine Ex.drew ?_)) hx); have hS5 := keep2 hx5 hi1 hi2; go_wp2_with fail); refine hKx.out _ _ hS5 (fun hHeld => ?_); clear hKx Kx; (try simp only [Act.put, List.setIfInBounds_toArray, List.set_cons_zero, List.set_cons_succ]))
  (refine headH_done (by kernel_rfl) ?_; simp only [List.drop_succ_cons, List.drop_zero])
  clear hS5 hHeld hS3
  obtain ⟨x5, rfl⟩ := hx5
  go_wp2
  refine bodyPost_ret (v := .tuple #[.agg (mcells f), .bool b]) (by simp only [results, Try.results75]; go_simp) rfl ⟨rfl, ?_⟩
  exact by repeat (first | with_reducible exact Ex.refl _ | with_reducible refine Ex.ext ?_ _ | with_reducible refine Ex.alloc ?_ _ | with_reducible refine Ex.drew ?_)

theorem setv_upd {f F : Nat → Int} {i : Nat} {P : List Nat} (hi : i < 4) (hF : ∀ j, j < 16 → ¬ (4 + 3 * i ≤ j ∧ j < 7 + 3 * i) → F j = f j) : mcells (upd (upd (upd F (4 + i * 3) ((P.getD 0 0 : Nat) : Int)) (4 + i * 3 + 1) ((P.getD 1 0 : Nat) : Int)) (4 + i * 3 + 2) ((P.getD 2 0 : Nat) : Int)) = mcells (setv f i P) := by
  refine mcells_eq fun j hj => ?_
  unfold upd setv
  by_cases h2 : j = 4 + i * 3 + 2
  · rw [if_pos h2, if_pos (by omega)]; congr 2; rw [show j - (4 + 3 * i) = 2 by omega]
  · by_cases h1 : j = 4 + i * 3 + 1
    · rw [if_neg h2, if_pos h1, if_pos (by omega)]; congr 2; rw [show j - (4 + 3 * i) = 1 by omega]
    · by_cases h0 : j = 4 + i * 3
      · rw [if_neg h2, if_neg h1, if_pos h0, if_pos (by omega)]; congr 2; rw [show j - (4 + 3 * i) = 0 by omega]
      · rw [if_neg h2, if_neg h1, if_neg h0, if_neg (by omega), hF j hj (by omega)]
theorem slP_keeps {w w' : World} {b g n : Nat} {L : List (List Nat)} {C : Array Value} {T : Nat} (h : SlP w g n L) (k : Keeps b w w') (hg : g ≠ b) (hb : w.heap[b]? = some (.cells C T (0, 0))) (hT : T ≠ 3) : SlP w' g n L :=
  ⟨h.1, Nat.lt_of_lt_of_le h.2.1 k.size, fun i hi => by
    obtain ⟨v, h1, h2⟩ := h.2.2 i hi
    exact ⟨v, by simp only [World.cell?] at h1 ⊢; rw [k.block g h.2.1 hg]; exact h1, h2.ki (k.ki hb hT)⟩⟩
theorem l5Try_s (gs hs : List C4) (p q : Option Addr) (cap cap2 : Nat) (w : World) (f : Nat → Int) (i fi : Nat) (hi : i < 4) (hfi : f i = fi) (hfi4 : fi < 4) (hn : gs.length ≤ 27) (hn2 : hs.length ≤ 27) (hok : ∀ z ∈ gs, Ok z) (hok2 : ∀ z ∈ hs, Ok z) (hz : Sl w p gs) (hy : Sl w q hs)
    (fits : List (List Nat)) (hfits : six.filter (fitQ gs hs fi i) = fits) (T : List Nat → Option (Nat → Int))
    (IH : ∀ P ∈ six, ∀ W, Ex w W → Calls Try.prog 75 #[.slice p gs.length cap, .slice q hs.length cap2, .agg (mcells (setv f i P)), .int .i64 ((i : Int) + 1)] W fun e w' => ∃ R, e = .returned (.tuple #[.agg (mcells R), .bool (T P).isSome]) ∧ (∀ m, T P = some m → R = m) ∧ Ex W w') :
    Calls Try.prog 75 #[.slice p gs.length cap, .slice q hs.length cap2, .agg (mcells f), .int .i64 i] w fun e w' => ∃ R, e = .returned (.tuple #[.agg (mcells R), .bool (fits.findSome? T).isSome]) ∧ (∀ m, fits.findSome? T = some m → R = m) ∧ Ex w w' := by
  have hne : ((i : Int) == 4) = false := beq_eq_false_iff_ne.2 (by omega)
  have HF := Lib.hid (show ∀ W, Ex w W → Calls Try.prog 92 #[.slice p gs.length cap, .int .i64 (f i), .slice q hs.length cap2, .int .i64 i] W fun e w' => ∃ g N cap, e = .returned (.slice (some ⟨g, 0, none⟩) N cap) ∧ N ≤ cap ∧ Ex W w' ∧ SlP w' g N fits ∧ W.heap.size ≤ g from fun W h => by
    rw [hfi, ← hfits]
    exact l5Fits_c gs hs fi i p q cap cap2 W hn hn2 hfi4 hi hok hok2 (hz.ex h) (hy.ex h))
  have Hsix := Lib.hid (show ∀ P ∈ fits, P ∈ six from fun P hP => by rw [← hfits] at hP; exact (List.mem_filter.1 hP).1)
  have HIH := Lib.hid IH
  have hget := mcells_get f i (by omega)
  have hj0 : 4 + i * 3 < 16 := by omega
  have hj1 : 4 + i * 3 + 1 < 16 := by omega
  have hj2 : 4 + i * 3 + 2 < 16 := by omega
  have hfl : fits.length ≤ 6 := by rw [← hfits]; exact Nat.le_trans (List.length_filter_le _ _) (by rw [six_len]; exact Nat.le_refl _)
  clear hz hy hok hok2 hfits IH hfi hfi4
  go_enter Try.func75, Try.ntmps75
  go_wp2_with (go_at_call 92; refine (HF.out _ (by exact by repeat (first | exact Ex.refl _ | refine Ex.ext ?_ _ | refine Ex.alloc ?_ _ | refine Ex.drew ?_))).mono ?_; rintro e w1 ⟨g, N, cap1, rfl, hc1, hx, hs1, hg0⟩)
  have hEw : Ex w w1 := Ex.trans (by exact by repeat (first | exact Ex.refl _ | refine Ex.ext ?_ _ | refine Ex.alloc ?_ _ | refine Ex.drew ?_)) hx
  have hM1 : w1.heap[w.heap.size]? = some (.cells (mcells f) 44 (0, 0)) := (hx.below.block _ (by simp; omega)).trans (by rw [heap_alloc_old (h := by simp), heap_alloc_new])
  have hZ1 : w1.heap[w.heap.size + 1]? = some (.cells (mcells mzero) 44 (0, 0)) := (hx.below.block _ (by simp)).trans (by
    have := heap_alloc_new (w.alloc (.cells (mcells f) 44)) (.cells (mcells mzero) 44)
    simpa using this)
  have hgw : w.heap.size + 1 < g := by simp at hg0; omega
  have hN6 : N ≤ 6 := by rw [hs1.1]; exact hfl
  clear hx hg0
  go_loopw [11] (fun v wr => ∃ (k : Nat) (F : Nat → Int), k ≤ N ∧ v = .int .i64 k ∧ Ex w wr ∧ wr.heap[w.heap.size]? = some (.cells (mcells F) 44 (0, 0)) ∧ wr.heap[w.heap.size + 1]? = some (.cells (mcells mzero) 44 (0, 0)) ∧ (∀ j, j < 16 → ¬ (4 + 3 * i ≤ j ∧ j < 7 + 3 * i) → F j = f j) ∧ SlP wr g N fits ∧ fits.findSome? T = (fits.drop k).findSome? T) (fun v _ => N - (intOf v).toNat)
  case atStart => exact ⟨0, f, Nat.zero_le _, rfl, hEw, hM1, hZ1, fun j _ _ => rfl, hs1, rfl⟩
  case round =>
    obtain ⟨k, F, hk, rfl, hE, hM, hZ, hFj, hs, hans⟩ := hrel
    have HE := Lib.hid hE
    have HM := Lib.hid hM
    have HZ := Lib.hid hZ
    have HFj := Lib.hid hFj
    have HS := Lib.hid hs
    have HA := Lib.hid hans
    have HN := Lib.hid hs.1
    clear hE hZ hFj hans hM1 hZ1 hs1
    by_cases hlt : k < N
    · have hkl : k < fits.length := by rw [← HN.out]; exact hlt
      obtain ⟨v0, hc0, hin0⟩ := hs.2.2 k hkl
      have hP6 := Hsix.out _ (List.getElem_mem hkl)
      obtain ⟨hp3, hp0, hp1, hp2⟩ := six_lt _ hP6
      have HD := Lib.hid (List.drop_eq_getElem_cons hkl)
      have hgl := hs.2.1
      generalize fits[k] = P at *
      have hin := hin0
      obtain ⟨gi, ci, rfl, hci, hgi, hcl⟩ := inP_cells hin0
      obtain ⟨gi', ci', A', e', _, hgh, _⟩ := hin
      simp at e'
      obtain ⟨rfl, rfl⟩ := e'
      have hgi6 : gi ≠ w.heap.size := fun e => by rw [e, hM] at hgh; simp at hgh
      have q0 := hcl 0 (by omega)
      have q1 := hcl 1 (by omega)
      have q2 := hcl 2 (by omega)
      rw [hp3] at hc0 hci
      have HU := Lib.hid (setv_upd (P := P) hi HFj.out)
      have HI := Lib.hid (HIH.out P hP6)
      have hb6 : w.heap.size < wr.heap.size := (Array.getElem?_eq_some_iff.1 hM).1
      have hw := setBlk_self hM
      have c0 := fun o => (setBlk_cell_other (w := wr) w.heap.size g k o (by omega)).trans hc0
      have d0 := fun o => (setBlk_cell_other (w := wr) w.heap.size gi 0 o (Ne.symm hgi6)).trans q0
      have d1 := fun o => (setBlk_cell_other (w := wr) w.heap.size gi 1 o (Ne.symm hgi6)).trans q1
      have d2 := fun o => (setBlk_cell_other (w := wr) w.heap.size gi 2 o (Ne.symm hgi6)).trans q2
      clear hcl hin0 hc0 q0 q1 q2 hgh hM hs
      generalize P.getD 0 0 = p0 at *
      generalize P.getD 1 0 = p1 at *
      generalize P.getD 2 0 = p2 at *
      rw [hw]
      clear hw
      go_upto_region 8 with (refine region_tail 22 (by kernel_rfl) (by kernel_rfl) ?_; simp only [List.take_succ_cons, List.take_zero, List.drop_succ_cons, List.drop_zero]; (repeat (go_big_quiet_step (fail))); refine wpQuiet_nil ?_; rintro _ ⟨x, rfl⟩)
      rw [HU.out]
      obtain ⟨w7, hw7⟩ : ∃ w7, ext (setBlk wr w.heap.size (.cells (mcells (setv f i P)) 44 (0, 0))) x = w7 := ⟨_, rfl⟩
      rw [hw7]
      have hK7 : Keeps w.heap.size wr w7 := by
        rw [← hw7]
        exact (setBlk_keeps _).trans (Ex.keeps ⟨x, rfl⟩ _)
      have hM7 : w7.heap[w.heap.size]? = some (.cells (mcells (setv f i P)) 44 (0, 0)) := by
        rw [← hw7, ext_heap _ _ (by rw [setBlk_size]; exact hb6), setBlk_heap, if_pos rfl, if_pos hb6]
      have hZ7 := (hK7.block _ (Array.getElem?_eq_some_iff.1 HZ.out).1 (by omega)).trans HZ.out
      have hS7 := slP_keeps HS.out hK7 (by omega) HM.out (by decide)
      have hE7 := Keeps.ex HE.out hK7 (Nat.le_refl _)
      have hi1 := isRow_of (n := 16) hM7 rfl
      have hi2 := rowAt_of hM7
      clear hw7 c0 d0 d1 d2
      cases hT : T P with
      | none =>
        rw [hT] at HI
        have HA2 := Lib.hid (show fits.findSome? T = (fits.drop (k + 1)).findSome? T by rw [HA.out, HD.out, List.findSome?_cons, hT])
        clear hT
        go_wp2_with (go_at_call 75; refine (HI.out _ (hE7.trans (by exact by repeat (first | exact Ex.refl _ | refine Ex.ext ?_ _ | refine Ex.alloc ?_ _ | refine Ex.drew ?_)))).mono ?_; rintro e w8 ⟨R, rfl, _, hx8⟩)
        go_roundw
        case rel =>
          have hx9 : Ex w8 (w8.alloc (.cells (mcells R) 44)) := by repeat (first | exact Ex.refl _ | refine Ex.ext ?_ _ | refine Ex.alloc ?_ _ | refine Ex.drew ?_)
          have hx := hx8.trans hx9
          have hl6 := (Array.getElem?_eq_some_iff.1 hM7).1
          have hl8 := (Array.getElem?_eq_some_iff.1 hZ7).1
          refine ⟨k + 1, setv f i P, by omega, by go_num, hE7.trans hx, (hx.below.block _ hl6).trans hM7, (hx.below.block _ hl8).trans hZ7, fun j hj hn => by unfold setv; rw [if_neg hn], hS7.ex hx, HA2.out⟩
        case measure => simp [intOf]; omega
      | some m =>
        rw [hT] at HI
        have HA2 := Lib.hid (show fits.findSome? T = some m by rw [HA.out, HD.out, List.findSome?_cons, hT])
        clear hT
        have hZi := isRow_of (n := 16) hZ7 rfl
        have hl8 := (Array.getElem?_eq_some_iff.1 hZ7).1
        go_upto_region 9 with (go_at_call 75; refine (HI.out _ (hE7.trans (by exact by repeat (first | exact Ex.refl _ | refine Ex.ext ?_ _ | refine Ex.alloc ?_ _ | refine Ex.drew ?_)))).mono ?_; rintro e w8 ⟨R, rfl, hR, hx8⟩; obtain rfl := hR m rfl)
        have hz8 := (keep2 hx8 hZi rfl).1
        have hl9 : w.heap.size + 1 < w8.heap.size := Nat.lt_of_lt_of_le hl8 hx8.below.size
        clear hi1 hi2 hZi
        go_wp2
        have hq1 : isRow ((w8.setRow (w.heap.size + 1) (mcells R)).alloc (.cells (mcells R) 44)) (w.heap.size + 1) 16 = true := by rw [isRow_lt _ _ _ (by rw [setRow_size]; exact hl9)]; exact isRow_setRow hz8 rfl
        have hq2 : rowAt ((w8.setRow (w.heap.size + 1) (mcells R)).alloc (.cells (mcells R) 44)) (w.heap.size + 1) = mcells R := by rw [rowAt_lt _ _ (by rw [setRow_size]; exact hl9)]; exact rowAt_setRow hz8
        have hrun := runRow_yes (P := Try.prog) _ _ _ hq1
        rw [hq2] at hrun
        clear hq1 hq2
        refine bodyPost_ret (v := .tuple #[.agg (mcells R), .bool true]) (by simp only [results, Try.results75]; go_simp; first | done | (rw [hrun]; first | done | rfl)) rfl ⟨R, by rw [HA2.out]; rfl, fun m' hm' => by rw [HA2.out] at hm'; exact Option.some.inj hm', ?_⟩
        exact Ex.alloc (Keeps.ex (hE7.trans hx8) setRow_keeps (Nat.le_succ _)) _
    · have : k = N := by omega
      subst this
      have HA2 := Lib.hid (show fits.findSome? T = none by rw [HA.out, HN.out, List.drop_length]; rfl)
      have hZi := isRow_of (n := 16) HZ.out rfl
      have hl8 := (Array.getElem?_eq_some_iff.1 HZ.out).1
      clear hs hM
      go_wp2
      have hrun := runRow_yes (P := Try.prog) _ _ _ (isRow_setRow (n := 16) (A := mcells mzero) hZi rfl)
      rw [rowAt_setRow hZi] at hrun
      refine bodyPost_ret (v := .tuple #[.agg (mcells mzero), .bool false]) (by simp only [results, Try.results75]; go_simp; first | done | (rw [hrun]; first | done | rfl)) rfl ⟨mzero, by rw [HA2.out]; rfl, fun m' hm' => (by rw [HA2.out] at hm'; cases hm'), ?_⟩
      exact Keeps.ex HE.out setRow_keeps (Nat.le_succ _)

/-- The trait that is next, as a number. -/
theorem part_tr {f : Nat → Int} {i k : Nat} (h : Part f i) (hk : k < 4) : f k = (natM f k : Int) ∧ natM f k < 4 := by
  have hn := nat_mem (f := f) h.tr
  have e : ∀ z ∈ [f 0, f 1, f 2, f 3], 0 ≤ z ∧ z < 4 := fun z hz => by have := hn z hz; simpa using this
  have : 0 ≤ f k ∧ f k < 4 := e _ (by
    have h' : k = 0 ∨ k = 1 ∨ k = 2 ∨ k = 3 := by omega
    rcases h' with rfl | rfl | rfl | rfl <;> simp)
  unfold natM
  omega
theorem l5Try_c (gs hs : List C4) (p q : Option Addr) (cap cap2 : Nat) (hn : gs.length ≤ 27) (hn2 : hs.length ≤ 27) (hok : ∀ z ∈ gs, Ok z) (hok2 : ∀ z ∈ hs, Ok z) : ∀ (d : Nat) (f : Nat → Int) (w : World), d ≤ 4 → Part f (4 - d) → Sl w p gs → Sl w q hs →
    Calls Try.prog 75 #[.slice p gs.length cap, .slice q hs.length cap2, .agg (mcells f), .int .i64 (4 - (d : Int))] w fun e w' => ∃ R, e = .returned (.tuple #[.agg (mcells R), .bool (tryR gs hs d f).isSome]) ∧ (∀ m, tryR gs hs d f = some m → R = m) ∧ Ex w w'
  | 0, f, w, _, hP, hz, hy => by
    refine (l5Try_0 gs hs p q cap cap2 w f hP.map hn hn2 hok hz hy).mono ?_
    rintro e w' ⟨rfl, hx⟩
    refine ⟨f, ?_, ?_, hx⟩
    · by_cases h : handR f gs = hs
      · simp [tryR, h]
      · simp [tryR, h]
    · intro m hm
      unfold tryR at hm
      split at hm
      · exact Option.some.inj hm
      · cases hm
  | d + 1, f, w, hd, hP, hz, hy => by
    have hP3 : Part f (3 - d) := by rw [show 4 - (d + 1) = 3 - d by omega] at hP; exact hP
    obtain ⟨h1, h2⟩ := part_tr hP (k := 3 - d) (by omega)
    have hc : ((4 : Int) - ((d + 1 : Nat) : Int)) = ((3 - d : Nat) : Int) := by omega
    rw [hc]
    exact l5Try_s gs hs p q cap cap2 w f (3 - d) (natM f (3 - d)) (by omega) h1 h2 hn hn2 hok hok2 hz hy _ rfl (fun P => tryR gs hs d (setv f (3 - d) P)) (fun P hP6 W hW => by
      have := l5Try_c gs hs p q cap cap2 hn hn2 hok hok2 d (setv f (3 - d) P) W (by omega) (by rw [show 4 - d = 3 - d + 1 by omega]; exact hP3.set hP6) (hz.ex hW) (hy.ex hW)
      rw [show ((4 : Int) - (d : Int)) = ((3 - d : Nat) : Int) + 1 by omega] at this
      exact this)
end Go.Proofs.Ytkmnnnhnajnefaa

namespace Go.Proofs.Ytkmnnnhnajnefaa
set_option linter.unusedSimpArgs false
set_option linter.unusedVariables false
set_option maxHeartbeats 2000000
set_option maxRecDepth 100000
open Go.RowKit

theorem m0_upd {P : List Nat} : mcells (upd (upd (upd (upd mzero 0 ((P.getD 0 0 : Nat) : Int)) 1 ((P.getD 1 0 : Nat) : Int)) 2 ((P.getD 2 0 : Nat) : Int)) 3 ((P.getD 3 0 : Nat) : Int)) = mcells (m0 P) := by
  refine mcells_eq fun j hj => ?_
  unfold upd m0 mzero
  by_cases h3 : j = 3
  · subst h3; simp
  · by_cases h2 : j = 2
    · subst h2; simp
    · by_cases h1 : j = 1
      · subst h1; simp
      · by_cases h0 : j = 0
        · subst h0; simp
        · rw [if_neg h3, if_neg h2, if_neg h1, if_neg h0, if_neg (by omega)]
theorem found_none {gs hs : List C4} (hl : ¬ gs.length = hs.length) : foundR gs hs = none := by unfold foundR; rw [if_neg hl]
theorem l5Found_c (gs hs : List C4) (p q : Option Addr) (cap cap2 : Nat) (w : World) (hn : gs.length ≤ 27) (hn2 : hs.length ≤ 27) (hg : Asc gs) (hh : Asc hs) (hz : Sl w p gs) (hy : Sl w q hs) :
    Calls Try.prog 54 #[.slice p gs.length cap, .slice q hs.length cap2] w fun e w' => e = .returned (.tuple #[.agg (mcells (ansM (foundR gs hs))), .bool (foundR gs hs).isSome]) ∧ Ex w w' := by
  have HP := Lib.hid (show ∀ W, Calls Try.prog 74 #[.int .i64 4] W fun e w' => ∃ g N cap, e = .returned (.slice (some ⟨g, 0, none⟩) N cap) ∧ N ≤ cap ∧ Ex W w' ∧ SlP w' g N many ∧ W.heap.size ≤ g from fun W => l5Perms_c 4 (by omega) W)
  by_cases hl : gs.length = hs.length
  · have HF := Lib.hid (found_try hg hh hl)
    have HT := Lib.hid (fun (t : List Nat) (ht : t ∈ many) (W : World) (hW : Ex w W) => l5Try_c gs hs p q cap cap2 hn hn2 hg.ok hh.ok 4 (m0 t) W (Nat.le_refl _) (part0 ht) (hz.ex hW) (hy.ex hW))
    obtain ⟨T, hT⟩ : ∃ T, (fun t => tryR gs hs 4 (m0 t)) = T := ⟨_, rfl⟩
    have hT2 : ∀ t, tryR gs hs 4 (m0 t) = T t := fun t => by rw [← hT]
    have HT2 := Lib.hid (show ∀ t ∈ many, ∀ W, Ex w W → Calls Try.prog 75 #[.slice p gs.length cap, .slice q hs.length cap2, .agg (mcells (m0 t)), .int .i64 0] W fun e w' => ∃ R, e = .returned (.tuple #[.agg (mcells R), .bool (T t).isSome]) ∧ (∀ m, T t = some m → R = m) ∧ Ex W w' from fun t ht W hW => by
      have := HT.out t ht W hW
      rw [hT2 t] at this
      exact this)
    rw [HF.out, hT]
    have Hlen := Lib.hid hl
    have hl' : ((gs.length : Int) == (hs.length : Int)) = true := beq_iff_eq.2 (by omega)
    obtain ⟨R, hR⟩ : ∃ R, many.findSome? T = R := ⟨_, rfl⟩
    rw [hR]
    have HR := Lib.hid hR
    clear HF hT hT2 HT hz hy hg hh hl hR
    go_enter Try.func54, Try.ntmps54
    go_wp2_with (go_at_call 74; refine (HP.out _).mono ?_; rintro e w1 ⟨g, N, cap1, rfl, hc1, hx, hs1, hg0⟩)
    have hEw : Ex w w1 := Ex.trans (by exact by repeat (first | exact Ex.refl _ | refine Ex.ext ?_ _ | refine Ex.alloc ?_ _ | refine Ex.drew ?_)) hx
    have hZ1 : w1.heap[w.heap.size]? = some (.cells (mcells mzero) 44 (0, 0)) := (hx.below.block _ (by simp)).trans (heap_alloc_new _ _)
    have hgw : w.heap.size < g := by simp at hg0; omega
    have hN : N = 24 := by rw [hs1.1]; exact many_len
    clear hx hg0
    subst hN
    go_loopw [7] (fun v wr => ∃ (k : Nat), k ≤ 24 ∧ v = .int .i64 k ∧ Ex w wr ∧ wr.heap[w.heap.size]? = some (.cells (mcells mzero) 44 (0, 0)) ∧ SlP wr g 24 many ∧ R = (many.drop k).findSome? T) (fun v _ => 24 - (intOf v).toNat)
    case atStart => exact ⟨0, Nat.zero_le _, rfl, hEw, hZ1, hs1, HR.out.symm⟩
    case round =>
      obtain ⟨k, hk, rfl, hE, hZ, hs, hans⟩ := hrel
      have HE := Lib.hid hE
      have HZ := Lib.hid hZ
      have HS := Lib.hid hs
      have HA := Lib.hid hans
      clear hE hans hZ1 hs1
      by_cases hlt : k < 24
      · have hkl : k < many.length := by rw [many_len]; exact hlt
        obtain ⟨v0, hc0, hin0⟩ := hs.2.2 k hkl
        have hPm := List.getElem_mem hkl
        obtain ⟨hp4, hp0, hp1, hp2, hp3⟩ := many_lt _ hPm
        have HD := Lib.hid (List.drop_eq_getElem_cons hkl)
        have HI := Lib.hid (HT2.out _ hPm)
        have hgl := hs.2.1
        generalize many[k] = P at *
        obtain ⟨gi, ci, rfl, hci, hgi, hcl⟩ := inP_cells hin0
        have q0 := hcl 0 (by omega)
        have q1 := hcl 1 (by omega)
        have q2 := hcl 2 (by omega)
        have q3 := hcl 3 (by omega)
        rw [hp4] at hc0 hci
        have HU := Lib.hid (m0_upd (P := P))
        clear hcl hin0 hs
        generalize P.getD 0 0 = p0 at *
        generalize P.getD 1 0 = p1 at *
        generalize P.getD 2 0 = p2 at *
        generalize P.getD 3 0 = p3 at *
        go_wp2
        (apply region_box (aF := _) [0,1,2,3,4,5,6,7,8,9,10,11,12,13,14,15,16,17,18,19,20,21,22,23,24,25] 26 27 8 61 50 44 (mcells mzero) (mcells (upd (upd (upd (upd mzero 0 (p0 : Int)) 1 (p1 : Int)) 2 (p2 : Int)) 3 (p3 : Int))) (by kernel_rfl) (by kernel_rfl) rfl rfl (by kernel_rfl) (fun ρ w => ?_) (fun x0 => ?_) (fun ρ w1 x2 h1 h2 => ?_) (fun x1 x2 n hn => ?_); rotate_left; (simp only [opAt_lit, List.getD_cons_zero, List.getD_cons_succ]; go_simp); (simp only [opAt_lit, List.map_cons, List.map_nil, List.getD_cons_zero, List.getD_cons_succ]; (repeat (go_big_quiet_step (fail))); exact rfl); (simp only [opAt_lit, List.getD_cons_zero, List.getD_cons_succ]; go_simp); simp only [Act.put, List.setIfInBounds_toArray, List.set_cons_zero, List.set_cons_succ]; (simp [go_sem] at hn); subst hn)
        rw [HU.out]
        have hEr : Ex wr (ext ((ext wr x1).alloc (.cells (mcells (m0 P)) 44)) x2) := by repeat (first | exact Ex.refl _ | refine Ex.ext ?_ _ | refine Ex.alloc ?_ _ | refine Ex.drew ?_)
        have hZi := isRow_of (n := 16) HZ.out rfl
        have hl4 := (Array.getElem?_eq_some_iff.1 HZ.out).1
        clear hc0 q0 q1 q2 q3 hZ
        cases hT : T P with
        | none =>
          rw [hT] at HI
          have HA2 := Lib.hid (show R = (many.drop (k + 1)).findSome? T by rw [HA.out, HD.out, List.findSome?_cons, hT])
          clear hT
          go_wp2_with (go_at_call 75; refine (HI.out _ (HE.out.trans hEr)).mono ?_; rintro e w8 ⟨R2, rfl, _, hx8⟩)
          go_roundw
          case rel =>
            have hx : Ex wr (w8.alloc (.cells (mcells R2) 44)) := (hEr.trans hx8).alloc _
            exact ⟨k + 1, by omega, by go_num, HE.out.trans hx, (hx.below.block _ hl4).trans HZ.out, HS.out.ex hx, HA2.out⟩
          case measure => simp [intOf]; omega
        | some m =>
          rw [hT] at HI
          have HA2 := Lib.hid (show R = some m by rw [HA.out, HD.out, List.findSome?_cons, hT])
          clear hT
          go_upto_region 7 with (go_at_call 75; refine (HI.out _ (HE.out.trans hEr)).mono ?_; rintro e w8 ⟨R2, rfl, hR, hx8⟩; obtain rfl := hR m rfl)
          have hz8 := (keep2 (hEr.trans hx8) hZi rfl).1
          have hl9 : w.heap.size < w8.heap.size := Nat.lt_of_lt_of_le hl4 (hEr.trans hx8).below.size
          clear hZi
          go_wp2
          have hq1 : isRow ((w8.setRow w.heap.size (mcells R2)).alloc (.cells (mcells R2) 44)) w.heap.size 16 = true := by rw [isRow_lt _ _ _ (by rw [setRow_size]; exact hl9)]; exact isRow_setRow hz8 rfl
          have hq2 : rowAt ((w8.setRow w.heap.size (mcells R2)).alloc (.cells (mcells R2) 44)) w.heap.size = mcells R2 := by rw [rowAt_lt _ _ (by rw [setRow_size]; exact hl9)]; exact rowAt_setRow hz8
          have hrun := runRow_yes (P := Try.prog) _ _ _ hq1
          rw [hq2] at hrun
          clear hq1 hq2
          refine bodyPost_ret (v := .tuple #[.agg (mcells R2), .bool true]) (by simp only [results, Try.results54]; go_simp; first | done | (rw [hrun]; first | done | rfl)) rfl ⟨by rw [HA2.out]; rfl, ?_⟩
          exact Ex.alloc (Keeps.ex (HE.out.trans (hEr.trans hx8)) setRow_keeps (Nat.le_refl _)) _
      · have : k = 24 := by omega
        subst this
        have HA2 := Lib.hid (show R = none by rw [HA.out, ← many_len, List.drop_length]; rfl)
        have hZi := isRow_of (n := 16) HZ.out rfl
        have hl8 := (Array.getElem?_eq_some_iff.1 HZ.out).1
        clear hs hZ
        go_wp2
        have hrun := runRow_yes (P := Try.prog) _ _ _ (isRow_setRow (n := 16) (A := mcells mzero) hZi rfl)
        rw [rowAt_setRow hZi] at hrun
        refine bodyPost_ret (v := .tuple #[.agg (mcells mzero), .bool false]) (by simp only [results, Try.results54]; go_simp; first | done | (rw [hrun]; first | done | rfl)) rfl ⟨by rw [HA2.out]; rfl, ?_⟩
        exact Keeps.ex HE.out setRow_keeps (Nat.le_refl _)
  · rw [found_none hl]
    have hl' : ((gs.length : Int) == (hs.length : Int)) = false := beq_eq_false_iff_ne.2 (by omega)
    clear hz hy hg hh hl
    go_enter Try.func54, Try.ntmps54
    go_wp2_with (go_at_call 74; refine (HP.out _).mono ?_; rintro e w1 ⟨g, N, cap1, rfl, hc1, ⟨x, rfl⟩, hs1, hg0⟩)
    have hN : N = 24 := by rw [hs1.1]; exact many_len
    subst hN
    refine wp_loop_rounds 1 ?_
    rw [rounds_succ]
    go_wp2
    refine bodyPost_ret (v := .tuple #[.agg (mcells mzero), .bool false]) (by simp only [results, Try.results54]; go_simp) rfl ⟨rfl, ?_⟩
    exact by repeat (first | exact Ex.refl _ | refine Ex.ext ?_ _ | refine Ex.alloc ?_ _ | refine Ex.drew ?_)
end Go.Proofs.Ytkmnnnhnajnefaa

namespace Go.Proofs.Ytkmnnnhnajnefaa
set_option linter.unusedSimpArgs false
set_option linter.unusedVariables false
set_option maxHeartbeats 2000000
set_option maxRecDepth 100000
open Go.RowKit

def bothB (gs hs : List C4) : Bool := fewB gs && fewB hs
def fmR (gs hs : List C4) : Option (Nat → Int) := if bothB gs hs then foundR gs hs else none
theorem few_len {cs : List C4} (h : fewB cs = true) : Asc cs ∧ cs.length ≤ 6 := by
  simp only [fewB, Bool.and_eq_true, decide_eq_true_eq] at h
  exact ⟨((handB_iff _).1 h.1).1, h.2⟩
/-- What the walk on 'few' says, at a slice. -/
structure FewAt (k : Nat) (w : World) (p : Option Addr) (n cap : Nat) (b : Bool) : Prop where
  call : ∀ W, Ex w W → Calls Try.prog k #[.slice p n cap] W fun e w' => e = .returned (.bool b) ∧ Ex W w'
theorem fewAt_use {k : Nat} {w W : World} {p : Option Addr} {n cap : Nat} {b : Bool} (h : FewAt k w p n cap b) (hW : Ex w W) : Calls Try.prog k #[.slice p n cap] W fun e w' => e = .returned (.bool b) ∧ Ex W w' := h.call W hW
theorem specFirstMap_c (gs hs : List C4) (p q : Option Addr) (cap cap2 : Nat) (w : World) (hn : gs.length ≤ 1000000000000) (hn2 : hs.length ≤ 1000000000000) (hz : Sl w p gs) (hy : Sl w q hs) :
    Calls Try.prog 29 #[.slice p gs.length cap, .slice q hs.length cap2] w fun e w' => e = .returned (.tuple #[.agg (mcells (ansM (fmR gs hs))), .bool (fmR gs hs).isSome]) ∧ Ex w w' := by
  have HG : FewAt 53 w p gs.length cap (fewB gs) := ⟨fun W hW => l5Few_c gs p cap W hn (hz.ex hW)⟩
  have HH : FewAt 53 w q hs.length cap2 (fewB hs) := ⟨fun W hW => l5Few_c hs q cap2 W hn2 (hy.ex hW)⟩
  cases h1 : fewB gs
  · have HR := Lib.hid (show fmR gs hs = none by simp [fmR, bothB, h1])
    rw [h1] at HG
    rw [HR.out]
    clear hz hy h1
    go_enter Try.func29, Try.ntmps29
    go_wp2_with (go_at_call 53; refine Calls.mono (fewAt_use (w := w) (by assumption) (by exact by repeat (first | exact Ex.refl _ | refine Ex.ext ?_ _ | refine Ex.alloc ?_ _ | refine Ex.drew ?_))) ?_; rintro e w2 ⟨rfl, x, rfl⟩)
    refine bodyPost_ret (v := .tuple #[.agg (mcells mzero), .bool false]) (by simp only [results, Try.results29]; go_simp) rfl ⟨rfl, ?_⟩
    exact by repeat (first | with_reducible exact Ex.refl _ | with_reducible refine Ex.ext ?_ _ | with_reducible refine Ex.alloc ?_ _ | with_reducible refine Ex.drew ?_)
  · cases h2 : fewB hs
    · have HR := Lib.hid (show fmR gs hs = none by simp [fmR, bothB, h2])
      rw [h1] at HG
      rw [h2] at HH
      rw [HR.out]
      clear hz hy h1 h2
      go_enter Try.func29, Try.ntmps29
      go_wp2_with (go_at_call 53; refine Calls.mono (fewAt_use (w := w) (by assumption) (by exact by repeat (first | exact Ex.refl _ | refine Ex.ext ?_ _ | refine Ex.alloc ?_ _ | refine Ex.drew ?_))) ?_; rintro e w2 ⟨rfl, x, rfl⟩)
      refine bodyPost_ret (v := .tuple #[.agg (mcells mzero), .bool false]) (by simp only [results, Try.results29]; go_simp) rfl ⟨rfl, ?_⟩
      exact by repeat (first | with_reducible exact Ex.refl _ | with_reducible refine Ex.ext ?_ _ | with_reducible refine Ex.alloc ?_ _ | with_reducible refine Ex.drew ?_)
    · have HR := Lib.hid (show fmR gs hs = foundR gs hs by simp [fmR, bothB, h1, h2])
      obtain ⟨hg, hg6⟩ := few_len h1
      obtain ⟨hh, hh6⟩ := few_len h2
      have HF := Lib.hid (fun W (hW : Ex w W) => l5Found_c gs hs p q cap cap2 W (by omega) (by omega) hg hh (hz.ex hW) (hy.ex hW))
      rw [h1] at HG
      rw [h2] at HH
      rw [HR.out]
      obtain ⟨R, hR⟩ : ∃ R, foundR gs hs = R := ⟨_, rfl⟩
      rw [hR] at HF ⊢
      clear hz hy h1 h2 hg hh hR HR
      go_enter Try.func29, Try.ntmps29
      go_wp2_with (first | (go_at_call 53; refine Calls.mono (fewAt_use (w := w) (by assumption) (by exact by repeat (first | exact Ex.refl _ | refine Ex.ext ?_ _ | refine Ex.alloc ?_ _ | refine Ex.drew ?_))) ?_; rintro e w2 ⟨rfl, x, rfl⟩) | (go_at_call 54; refine (HF.out _ (by exact by repeat (first | exact Ex.refl _ | refine Ex.ext ?_ _ | refine Ex.alloc ?_ _ | refine Ex.drew ?_))).mono ?_; rintro e w2 ⟨rfl, x, rfl⟩))
      refine bodyPost_ret (v := .tuple #[.agg (mcells (ansM R)), .bool R.isSome]) (by simp only [results, Try.results29]; go_simp) rfl ⟨rfl, ?_⟩
      exact by repeat (first | with_reducible exact Ex.refl _ | with_reducible refine Ex.ext ?_ _ | with_reducible refine Ex.alloc ?_ _ | with_reducible refine Ex.drew ?_)
theorem specAreAlike_c (gs hs : List C4) (p q : Option Addr) (cap cap2 : Nat) (w : World) (hn : gs.length ≤ 1000000000000) (hn2 : hs.length ≤ 1000000000000) (hz : Sl w p gs) (hy : Sl w q hs) :
    Calls Try.prog 32 #[.slice p gs.length cap, .slice q hs.length cap2] w fun e w' => e = .returned (.tuple #[.bool (fmR gs hs).isSome, .bool (bothB gs hs)]) ∧ Ex w w' := by
  have HG : FewAt 53 w p gs.length cap (fewB gs) := ⟨fun W hW => l5Few_c gs p cap W hn (hz.ex hW)⟩
  have HH : FewAt 53 w q hs.length cap2 (fewB hs) := ⟨fun W hW => l5Few_c hs q cap2 W hn2 (hy.ex hW)⟩
  cases h1 : fewB gs
  · have HR := Lib.hid (show fmR gs hs = none by simp [fmR, bothB, h1])
    have HB := Lib.hid (show bothB gs hs = false by simp [bothB, h1])
    rw [h1] at HG
    rw [HR.out, HB.out]
    clear hz hy h1
    go_enter Try.func32, Try.ntmps32
    go_wp2_with (go_at_call 53; refine Calls.mono (fewAt_use (w := w) (by assumption) (by exact by repeat (first | exact Ex.refl _ | refine Ex.ext ?_ _ | refine Ex.alloc ?_ _ | refine Ex.drew ?_))) ?_; rintro e w2 ⟨rfl, x, rfl⟩)
    go_ret2
    exact ⟨rfl, by repeat (first | with_reducible exact Ex.refl _ | with_reducible refine Ex.ext ?_ _ | with_reducible refine Ex.alloc ?_ _ | with_reducible refine Ex.drew ?_)⟩
  · cases h2 : fewB hs
    · have HR := Lib.hid (show fmR gs hs = none by simp [fmR, bothB, h2])
      have HB := Lib.hid (show bothB gs hs = false by simp [bothB, h2])
      rw [h1] at HG
      rw [h2] at HH
      rw [HR.out, HB.out]
      clear hz hy h1 h2
      go_enter Try.func32, Try.ntmps32
      go_wp2_with (go_at_call 53; refine Calls.mono (fewAt_use (w := w) (by assumption) (by exact by repeat (first | exact Ex.refl _ | refine Ex.ext ?_ _ | refine Ex.alloc ?_ _ | refine Ex.drew ?_))) ?_; rintro e w2 ⟨rfl, x, rfl⟩)
      go_ret2
      exact ⟨rfl, by repeat (first | with_reducible exact Ex.refl _ | with_reducible refine Ex.ext ?_ _ | with_reducible refine Ex.alloc ?_ _ | with_reducible refine Ex.drew ?_)⟩
    · have HR := Lib.hid (show fmR gs hs = foundR gs hs by simp [fmR, bothB, h1, h2])
      have HB := Lib.hid (show bothB gs hs = true by simp [bothB, h1, h2])
      obtain ⟨hg, hg6⟩ := few_len h1
      obtain ⟨hh, hh6⟩ := few_len h2
      have HF := Lib.hid (fun W (hW : Ex w W) => l5Found_c gs hs p q cap cap2 W (by omega) (by omega) hg hh (hz.ex hW) (hy.ex hW))
      rw [h1] at HG
      rw [h2] at HH
      rw [HR.out, HB.out]
      obtain ⟨R, hR⟩ : ∃ R, foundR gs hs = R := ⟨_, rfl⟩
      rw [hR] at HF ⊢
      clear hz hy h1 h2 hg hh hR HR
      go_enter Try.func32, Try.ntmps32
      go_wp2_with (first | (go_at_call 53; refine Calls.mono (fewAt_use (w := w) (by assumption) (by exact by repeat (first | exact Ex.refl _ | refine Ex.ext ?_ _ | refine Ex.alloc ?_ _ | refine Ex.drew ?_))) ?_; rintro e w2 ⟨rfl, x, rfl⟩) | (go_at_call 54; refine (HF.out _ (by exact by repeat (first | exact Ex.refl _ | refine Ex.ext ?_ _ | refine Ex.alloc ?_ _ | refine Ex.drew ?_))).mono ?_; rintro e w2 ⟨rfl, x, rfl⟩))
      go_ret2
      exact ⟨rfl, by repeat (first | with_reducible exact Ex.refl _ | with_reducible refine Ex.ext ?_ _ | with_reducible refine Ex.alloc ?_ _ | with_reducible refine Ex.drew ?_)⟩
end Go.Proofs.Ytkmnnnhnajnefaa
