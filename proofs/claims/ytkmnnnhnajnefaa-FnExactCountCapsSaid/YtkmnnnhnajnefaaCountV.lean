/- The closure of CountCaps, as a visitor. -/
import Derived.Test.YtkmnnnhnajnefaaPool
import Derived.Test.YtkmnnnhnajnefaaCaps
namespace Go.Proofs.Ytkmnnnhnajnefaa
set_option linter.unusedSimpArgs false
set_option linter.unusedVariables false
set_option maxHeartbeats 1000000
set_option maxRecDepth 100000
open Go.RowKit

/-- What the closure keeps: the number asked for, and the count, as the machine holds it. -/
structure CntI (n : Int) (bn B : Nat) (s : Nat) (w : World) : Prop where
  lt : bn < w.heap.size
  asked : w.cell? ⟨bn, 0, none⟩ = some (.int .i64 n)
  held : w.heap[B]? = some (.cells #[.int .i64 (wrap64 s)] 3 (0, 0))
theorem wrap_step (s : Nat) : wrap64 (wrap64 (s : Int) + 1) = wrap64 ((s + 1 : Nat) : Int) := by
  unfold wrap64
  omega
theorem keeps_set (w : World) (B : Nat) (v : Value) : Keeps B w (w.setCell ⟨B, 0, none⟩ v) :=
  ⟨rfl, rfl, rfl, by simp, fun k hk hg => heap_setCell_other w _ k v hg⟩

theorem count_visitor (n : Int) (bn B : Nat) (hne : bn ≠ B) : Visitor Nat 41 #[.pointer (some ⟨bn, 0, none⟩), .pointer (some ⟨B, 0, none⟩)] B (CntI n bn B) (cntF n) := by
  constructor
  · intro s w w' h hE
    exact ⟨by have := hE.below.size; have := h.lt; omega, by rw [hE.below.cell h.lt]; exact h.asked, by rw [hE.below.block B (lt_of_block h.held)]; exact h.held⟩
  · intro P s w q nP capq hP hn hq hqB hI
    have h1 := hI.asked
    have h2 := cell_of_one hI.held
    have h3 := free_of_one hI.held
    have Hheld := Lib.hid hI.held
    show Calls Try.prog 41 #[.slice q nP capq, .pointer (some ⟨bn, 0, none⟩), .pointer (some ⟨B, 0, none⟩)] w _
    by_cases he : (nP : Int) = n
    · have hb : ((nP : Int) == n) = true := by simp [he]
      subst he
      have hf : cntF (nP : Int) P s = s + 1 := by unfold cntF; rw [hP, if_pos rfl]
      rw [hf]
      go_enter Try.func41, Try.ntmps41
      go_wp2
      go_end0
      show Ending.returned (Value.tuple #[]) = Ending.returned (Value.tuple #[]) ∧ Keeps B w (w.setCell ⟨B, 0, none⟩ (.int .i64 (wrap64 (wrap64 (s : Int) + 1)))) ∧ CntI nP bn B (s + 1) (w.setCell ⟨B, 0, none⟩ (.int .i64 (wrap64 (wrap64 (s : Int) + 1))))
      rw [wrap_step]
      have hset : World.cell? (w.setCell ⟨B, 0, none⟩ (.int .i64 (wrap64 ((s + 1 : Nat) : Int)))) ⟨bn, 0, none⟩ = some (.int .i64 (nP : Int)) := by
        simp only [World.cell?]; rw [heap_setCell_other w _ bn _ hne]; exact h1
      exact ⟨rfl, keeps_set w B _, by simpa using hI.lt, hset, one_setCell Hheld.out⟩
    · have hb : ((nP : Int) == n) = false := by simp [he]
      have hf : cntF n P s = s := by unfold cntF; rw [hP, if_neg he]
      rw [hf]
      go_enter Try.func41, Try.ntmps41
      go_wp2
      go_end0
      exact ⟨rfl, Keeps.refl _ _, hI⟩

theorem cnt_sum (cs : List C4) (m : Nat) (hn : cs.length ≤ 15) : wrap64 (runV (cntF m) ([] :: vis cs cs.length [] 0) 0 : Nat) = (cntS cs cs.length m [] 0 : Nat) := by
  have h1 := cnt_eq cs m cs.length [] 0 (by simp)
  have h2 := cntS_small cs cs.length m [] 0
  have h3 : 2 ^ cs.length ≤ 2 ^ 15 := Nat.pow_le_pow_right (by omega) hn
  have e : cntF m [] 0 = (if ([] : List Nat).length = m then 1 else 0) := by
    unfold cntF
    by_cases h : 0 = m
    · subst h; rfl
    · rw [if_neg (by simp; omega), if_neg (by simpa using h)]
  have e2 : runV (cntF m) ([] :: vis cs cs.length [] 0) 0 = cntS cs cs.length m [] 0 := by
    show runV (cntF m) (vis cs cs.length [] 0) (cntF m [] 0) = _
    rw [cntF_fold, e, h1]; rfl
  rw [e2]
  exact IntWalk.wrap64_in _ (by omega)

theorem specCountCaps_c (cs : List C4) (n : Int) (p : Option Addr) (cap : Nat) (w : World) (hn : cs.length ≤ 1000000000000) (hz : Sl w p cs) :
    Calls Try.prog 11 #[.slice p cs.length cap, .int .i64 n] w fun e w' => e = .returned (.tuple #[.int .i64 (ccR cs n), .bool (ccB cs n)]) ∧ Ex w w' := by
  have Hz := Lib.hid hz
  clear hz
  cases h1 : gcB cs
  · have hB : ccB cs n = false := by have h := h1; unfold gcB at h; unfold ccB; rw [← Bool.and_assoc, h]; rfl
    have hR : ccR cs n = 0 := by rw [ccR, hB]; rfl
    rw [hR, hB]
    clear hR hB
    go_enter Try.func11, Try.ntmps11
    go_wp2_with (first | (go_at_call 34; refine (l3Pool_c _ _ _ _ hn (Hz.out.ex (by repeat (first | exact Ex.refl _ | refine Ex.ext ?_ _ | refine Ex.alloc ?_ _ | refine Ex.drew ?_)))).mono ?_; rintro e w' ⟨rfl, x, rfl⟩; rw [h1]))
    go_ret2
    exact ⟨rfl, by repeat (first | exact Ex.refl _ | refine Ex.ext ?_ _ | refine Ex.alloc ?_ _ | refine Ex.drew ?_)⟩
  · have hB0 : ccB cs n = inR n 0 15 := by have h := h1; unfold gcB at h; unfold ccB; rw [← Bool.and_assoc, h]; rfl
    cases h2 : inR n 0 15
    · have hB : ccB cs n = false := hB0.trans h2
      have hR : ccR cs n = 0 := by rw [ccR, hB]; rfl
      rw [hR, hB]
      clear hR hB hB0
      go_enter Try.func11, Try.ntmps11
      go_wp2_with (first | (go_at_call 34; refine (l3Pool_c _ _ _ _ hn (Hz.out.ex (by repeat (first | exact Ex.refl _ | refine Ex.ext ?_ _ | refine Ex.alloc ?_ _ | refine Ex.drew ?_)))).mono ?_; rintro e w' ⟨rfl, x, rfl⟩; rw [h1]) | (go_at_call 35; refine (l1In_c _ _ _ _).mono ?_; rintro e w' ⟨rfl, x, rfl⟩; rw [h2]))
      go_ret2
      exact ⟨rfl, by repeat (first | exact Ex.refl _ | refine Ex.ext ?_ _ | refine Ex.alloc ?_ _ | refine Ex.drew ?_)⟩
    · have hB : ccB cs n = true := hB0.trans h2
      have hR : ccR cs n = cntS cs cs.length n.toNat [] 0 := by rw [ccR, hB]; rfl
      rw [hR, hB]
      clear hR hB hB0
      have h3 := (inR_iff _ _ _).1 h2
      have h4 : handB cs = true ∧ cs.length ≤ 15 := by simpa [gcB] using h1
      have Hok := Lib.hid (handB_ok h4.1)
      obtain ⟨m, rfl⟩ : ∃ m : Nat, n = m := ⟨n.toNat, by omega⟩
      simp only [Int.toNat_natCast]
      have hm : m ≤ 15 := by omega
      have hn15 := h4.2
      clear h4 h3
      go_enter Try.func11, Try.ntmps11
      go_wp2_with (first | (go_at_call 34; refine (l3Pool_c _ _ _ _ hn (Hz.out.ex (by repeat (first | exact Ex.refl _ | refine Ex.ext ?_ _ | refine Ex.alloc ?_ _ | refine Ex.drew ?_)))).mono ?_; rintro e w' ⟨rfl, x, rfl⟩; rw [h1]) | (go_at_call 35; refine (l1In_c _ _ _ _).mono ?_; rintro e w' ⟨rfl, x, rfl⟩; rw [h2]) |
        (go_at_call 36; refine (l3Count_c cs _ _ hn15 Hok.out.1 cs.length [] 0 m 0 _ 0 _ 0 m _ (by simp) rfl rfl hm rfl (Nat.le_refl _) (by simp) (by exact (Hz.out.ex (by repeat (first | exact Ex.refl _ | refine Ex.ext ?_ _ | refine Ex.alloc ?_ _ | refine Ex.drew ?_)))) (by intro j hj; simp [natInts] at hj)).mono ?_; rintro e w' ⟨rfl, y, rfl⟩))
      go_ret2
      exact ⟨rfl, by repeat (first | exact Ex.refl _ | refine Ex.ext ?_ _ | refine Ex.alloc ?_ _ | refine Ex.drew ?_)⟩

theorem implCountCaps_c (cs : List C4) (n : Int) (p : Option Addr) (cap : Nat) (w : World) (hn : cs.length ≤ 1000000000000) (hz : Sl w p cs) :
    Calls Try.prog 13 #[.slice p cs.length cap, .int .i64 n] w fun e w' => e = .returned (.tuple #[.int .i64 (ccR cs n), .bool (ccB cs n)]) ∧ Ex w w' := by
  have Hz := Lib.hid hz
  clear hz
  have hmf : ∀ (fn : Fn) (first cap : Array Value) (w : World), (Instr.makeFunc fn first cap).run Try.prog w = .ok (.func fn first cap) w := fun _ _ _ _ => rfl
  cases h1 : gcB cs
  · have hB : ccB cs n = false := by have h := h1; unfold gcB at h; unfold ccB; rw [← Bool.and_assoc, h]; rfl
    have hR : ccR cs n = 0 := by rw [ccR, hB]; rfl
    rw [hR, hB]
    clear hR hB
    go_enter Try.func13, Try.ntmps13
    go_wp2_with (first | (go_at_call 38; refine (isPool_c _ _ _ _ hn (Hz.out.ex (by repeat (first | exact Ex.refl _ | refine Ex.ext ?_ _ | refine Ex.alloc ?_ _ | refine Ex.drew ?_)))).mono ?_; rintro e w' ⟨rfl, x, rfl⟩; rw [h1]))
    go_ret2
    exact ⟨rfl, by repeat (first | exact Ex.refl _ | refine Ex.ext ?_ _ | refine Ex.alloc ?_ _ | refine Ex.drew ?_)⟩
  · have hB0 : ccB cs n = inR n 0 15 := by have h := h1; unfold gcB at h; unfold ccB; rw [← Bool.and_assoc, h]; rfl
    cases h2 : inR n 0 15
    · have hB : ccB cs n = false := hB0.trans h2
      have hR : ccR cs n = 0 := by rw [ccR, hB]; rfl
      rw [hR, hB]
      clear hR hB hB0
      go_enter Try.func13, Try.ntmps13
      go_wp2_with (first | (go_at_call 38; refine (isPool_c _ _ _ _ hn (Hz.out.ex (by repeat (first | exact Ex.refl _ | refine Ex.ext ?_ _ | refine Ex.alloc ?_ _ | refine Ex.drew ?_)))).mono ?_; rintro e w' ⟨rfl, x, rfl⟩; rw [h1]) | (go_at_call 39; refine (within_c _ _ _ _).mono ?_; rintro e w' ⟨rfl, x, rfl⟩; rw [h2]))
      go_ret2
      exact ⟨rfl, by repeat (first | exact Ex.refl _ | refine Ex.ext ?_ _ | refine Ex.alloc ?_ _ | refine Ex.drew ?_)⟩
    · have hB : ccB cs n = true := hB0.trans h2
      have hR : ccR cs n = cntS cs cs.length n.toNat [] 0 := by rw [ccR, hB]; rfl
      rw [hR, hB]
      clear hR hB hB0
      have h3 := (inR_iff _ _ _).1 h2
      have h4 : handB cs = true ∧ cs.length ≤ 15 := by simpa [gcB] using h1
      have Hok := Lib.hid (handB_ok h4.1)
      have Hnd := Lib.hid (((handB_iff cs).1 h4.1).1.nodup)
      obtain ⟨m, rfl⟩ : ∃ m : Nat, n = m := ⟨n.toNat, by omega⟩
      simp only [Int.toNat_natCast]
      have hm : m ≤ 15 := by omega
      have hn15 := h4.2
      clear h4 h3
      go_enter Try.func13, Try.ntmps13
      have hk0 : Ex (w.alloc (.cells #[.int .i64 (m : Int)] 3)) (w.alloc (.cells #[.int .i64 (m : Int)] 3)) := Ex.refl _
      have hS := cnt_sum cs m hn15
      go_wp2_with (first | (go_at_call 38; refine (isPool_c _ _ _ _ hn (Hz.out.ex (by repeat (first | exact Ex.refl _ | refine Ex.ext ?_ _ | refine Ex.alloc ?_ _ | refine Ex.drew ?_)))).mono ?_; rw [h1]; rintro e w1 ⟨rfl, hx1⟩; have hc1 : w1.cell? ⟨w.heap.size, 0, none⟩ = some (.int .i64 (m : Int)) := (hx1.below.cell (by simp)).trans (by simp [World.cell?_alloc_at])) |
        (go_at_call 39; refine (within_c _ _ _ _).mono ?_; rw [h2]; rintro e w2 ⟨rfl, hx2⟩; have hc2 := (hx2.below.cell (by have := hx1.below.size; simp at this ⊢; omega)).trans hc1) |
        (go_at_call 40; have hs1 := hx1.below.size; have hs2 := hx2.below.size; (try simp at hs1); have hE2 : Ex w w2 := Ex.trans (Ex.trans ((Ex.refl w).alloc _) hx1) hx2; have hI0 : CntI (m : Int) w.heap.size w2.heap.size 0 (w2.alloc (.cells #[.int .i64 0] 3)) := ⟨by (try simp); omega, by rw [World.cell?_alloc_past _ _ _ (by omega)]; exact hc2, by rw [heap_alloc_new, show wrap64 ((0 : Nat) : Int) = 0 from IntWalk.wrap64_in _ (by omega)]⟩; refine (caps_c (count_visitor (m : Int) w.heap.size w2.heap.size (by omega)) cs p cap hn15 Hok.out.1 Hnd.out (fun h0 b o e => by obtain ⟨b', o', e', hb', _⟩ := Hz.out 0 h0; rw [e] at e'; simp at e'; omega) cs.length [] 0 0 0 none 0 0 _ (by simp) rfl rfl (Nat.le_refl _) (Nat.le_refl _) ⟨by simp, by simp⟩ (by simp) (Hz.out.ex (hE2.alloc _)) (by intro j hj; simp [natInts] at hj) (Or.inl rfl) (fun _ => rfl) hI0).mono ?_; rintro e w3 ⟨rfl, hK3, hI3⟩; have hc3 := cell_of_one hI3.held; rw [hS] at hc3))
      go_ret2
      exact ⟨rfl, Keeps.ex (hE2.alloc _) hK3 (by omega)⟩
end Go.Proofs.Ytkmnnnhnajnefaa
