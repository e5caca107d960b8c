/- Numbers that are the first ones, each once: the plain word, and the walk of the reference's test. -/
import Derived.Test.YtkmnnnhnajnefaaInts
import Derived.Test.YtkmnnnhnajnefaaCard3
import Derived.Lib.SlicesCompact
namespace Go.Proofs.Ytkmnnnhnajnefaa
set_option linter.unusedSimpArgs false
set_option linter.unusedVariables false
set_option maxHeartbeats 1000000
set_option maxRecDepth 100000
open Go.RowKit

def goodI (zs : List Int) (k : Nat) (z : Int) : Bool := inR z 0 ((zs.length : Int) - 1) && !((zs.take k).contains z)
def permQ (zs : List Int) : Nat → Nat → Bool
  | 0, _ => true
  | f + 1, k => goodI zs k (zs.getD k 0) && permQ zs f (k + 1)
/-- Are they the first numbers, each once? -/
def permB (zs : List Int) : Bool := permQ zs zs.length 0
theorem permQ_iff (zs : List Int) : ∀ f k, permQ zs f k = true ↔ ∀ i, k ≤ i → i < k + f → goodI zs i (zs.getD i 0) = true
  | 0, k => by simp [permQ]; intro i h1 h2; omega
  | f + 1, k => by
    simp only [permQ, Bool.and_eq_true, permQ_iff zs f (k + 1)]
    constructor
    · rintro ⟨h1, h2⟩ i hi hj
      by_cases h : i = k
      · subst h; exact h1
      · exact h2 i (by omega) (by omega)
    · intro h
      exact ⟨h k (by omega) (by omega), fun i hi hj => h i (by omega) (by omega)⟩
theorem permB_iff (zs : List Int) : permB zs = true ↔ (∀ z ∈ zs, inR z 0 ((zs.length : Int) - 1) = true) ∧ zs.Nodup := by
  unfold permB
  rw [permQ_iff]
  have key : ∀ i, i < zs.length → zs.getD i 0 = zs[i]! := by
    intro i hi; simp [List.getD_eq_getElem?_getD, hi]
  constructor
  · intro h
    have hg : ∀ i (hi : i < zs.length), inR zs[i] 0 ((zs.length : Int) - 1) = true ∧ zs[i] ∉ zs.take i := by
      intro i hi
      have := h i (by omega) (by omega)
      simp only [goodI, Bool.and_eq_true, Bool.not_eq_true', List.getD_eq_getElem?_getD, List.getElem?_eq_getElem hi, Option.getD_some] at this
      exact ⟨this.1, by simpa using this.2⟩
    refine ⟨fun z hz => ?_, ?_⟩
    · obtain ⟨i, hi, rfl⟩ := List.getElem_of_mem hz
      exact (hg i hi).1
    · rw [List.nodup_iff_pairwise_ne, List.pairwise_iff_getElem]
      intro i j hi hj hij e
      exact (hg j hj).2 (by rw [← e, List.mem_take_iff_getElem]; exact ⟨i, by omega, rfl⟩)
  · rintro ⟨h1, h2⟩ i _ hi
    have hi : i < zs.length := by omega
    simp only [goodI, Bool.and_eq_true, Bool.not_eq_true', List.getD_eq_getElem?_getD, List.getElem?_eq_getElem hi, Option.getD_some]
    refine ⟨h1 _ (List.getElem_mem hi), ?_⟩
    rw [← Bool.not_eq_true, List.contains_iff_mem, List.mem_take_iff_getElem]
    rintro ⟨j, hj, e⟩
    have := (List.nodup_iff_pairwise_ne.1 h2)
    rw [List.pairwise_iff_getElem] at this
    exact this j i (by omega) hi (by omega) e

theorem compact_nodup {s : List Int} (hs : s.Pairwise (· ≤ ·)) : (Lib.compact s).length = s.length ↔ s.Nodup := by
  have hk : ∀ j (hj : j < s.length), 0 < j → (Lib.keeps s.toArray j = true ↔ s[j] ≠ s[j - 1]'(by omega)) := by
    intro j hj h0
    have e1 : s.toArray[j]! = s[j] := by simp [hj]
    have e2 : s.toArray[j - 1]! = s[j - 1]'(by omega) := by simp [show j - 1 < s.length by omega]
    unfold Lib.keeps
    rw [e1, e2, decide_eq_true_iff]
    constructor
    · rintro (h | h)
      · omega
      · exact h
    · intro h; exact Or.inr h
  have hl : (Lib.compact s).length = s.length ↔ ∀ j, j < s.length → Lib.keeps s.toArray j = true := by
    unfold Lib.compact Lib.compactUpTo
    rw [List.length_map]
    have := List.length_filter_eq_length_iff (l := List.range s.length) (p := Lib.keeps s.toArray)
    simp only [List.length_range, List.mem_range] at this
    exact this
  rw [hl, List.nodup_iff_pairwise_ne, List.pairwise_iff_getElem]
  rw [List.pairwise_iff_getElem] at hs
  constructor
  · intro h i j hi hj hij e
    have hj0 : 0 < j := by omega
    have h1 := (hk j hj hj0).1 (h j hj)
    have h2 : s[i] ≤ s[j - 1]'(by omega) := by
      by_cases e : i = j - 1
      · subst e; exact Int.le_refl _
      · exact hs i (j - 1) hi (by omega) (by omega)
    have h3 := hs (j - 1) j (by omega) hj (by omega)
    omega
  · intro h j hj
    by_cases h0 : j = 0
    · simp [Lib.keeps, h0]
    · exact (hk j hj (by omega)).2 (fun e => h (j - 1) j (by omega) hj (by omega) e.symm)
theorem sorted_le (zs : List Int) : (zs.mergeSort fun x y => decide (x ≤ y)).Pairwise (· ≤ ·) := by
  have := List.pairwise_mergeSort (le := fun x y : Int => decide (x ≤ y)) (by intro a b c; simp; omega) (by intro a b; simp; omega) zs
  simpa using this
theorem perm_sorted (zs : List Int) : (Lib.compact (zs.mergeSort fun x y => decide (x ≤ y))).length = zs.length ↔ zs.Nodup := by
  have h := compact_nodup (sorted_le zs)
  rw [(List.mergeSort_perm zs _).length_eq] at h
  rw [h]
  exact (List.mergeSort_perm zs _).nodup_iff
theorem permB_impl (zs : List Int) : permB zs = (zs.all (fun z => inR z 0 ((zs.length : Int) - 1)) && decide ((Lib.compact (zs.mergeSort fun x y => decide (x ≤ y))).length = zs.length)) := by
  rw [Bool.eq_iff_iff, permB_iff, Bool.and_eq_true, List.all_eq_true, decide_eq_true_iff, perm_sorted]

theorem l1Has_c (zs : List Int) (z : Int) (p : Option Addr) (n cap : Nat) (w : World) (hl : zs.length = n) (hn : n ≤ 1000) (hz : SlI w p zs) :
    Calls Try.prog 85 #[.slice p n cap, .int .i64 z] w fun e w' => e = .returned (.bool (zs.contains z)) ∧ Ex w w' := by
  subst hl
  obtain ⟨r, hr⟩ : ∃ r, zs.contains z = r := ⟨_, rfl⟩
  have hr0 : r = (zs.drop 0).contains z := by simpa using hr.symm
  rw [hr]
  clear hr
  have H0 := Lib.hid hr0
  clear hr0
  go_enter Try.func85, Try.ntmps85
  go_wp2
  go_loop [5] (fun v => ∃ k : Nat, k ≤ zs.length ∧ v = .int .i64 k ∧ r = (zs.drop k).contains z) (fun v => zs.length - (intOf v).toNat)
  case atStart => exact ⟨0, Nat.zero_le _, rfl, H0.out⟩
  case round =>
    obtain ⟨k, hk, rfl, hf⟩ := hrel
    have Hf := Lib.hid hf
    clear hf
    by_cases hlt : k < zs.length
    · obtain ⟨b, o, rfl, hb, h1⟩ := hz k hlt
      clear hz
      have Hd := Lib.hid (List.drop_eq_getElem_cons hlt)
      generalize zs[k] = y at *
      by_cases e : y = z
      · subst e
        go_wp2
        go_ret
        exact ⟨ret_bool (by rw [Hf.out, Hd.out]; simp), by repeat (first | exact Ex.refl _ | refine Ex.ext ?_ _ | refine Ex.alloc ?_ _ | refine Ex.drew ?_)⟩
      · go_wp2
        go_round
        case rel =>
          refine ⟨k + 1, by omega, by go_num, ?_⟩
          rw [Hf.out, Hd.out, List.contains_cons]
          simp [Ne.symm e]
        case measure => simp [intOf]; omega
    · have : k = zs.length := by omega
      subst this
      clear hz
      go_wp2
      go_ret
      exact ⟨ret_bool (by rw [Hf.out]; simp), by repeat (first | exact Ex.refl _ | refine Ex.ext ?_ _ | refine Ex.alloc ?_ _ | refine Ex.drew ?_)⟩
theorem l1In_r' {n a b : Int} {r : Bool} {w : World} (h : inR n a b = r) : Calls Try.prog 35 #[.int .i64 n, .int .i64 a, .int .i64 b] w fun e w' => e = .returned (.bool r) ∧ Ex w w' := by
  subst h; exact l1In_c _ _ _ _
theorem SlI.take {w : World} {p : Option Addr} {zs : List Int} (h : SlI w p zs) (k : Nat) : SlI w p (zs.take k) := fun i hi => by
  have hi' : i < zs.length := by simp at hi; omega
  obtain ⟨b, o, e, hb, h1⟩ := h i hi'
  exact ⟨b, o, e, hb, by rw [h1]; simp⟩

theorem l5Perm_c (zs : List Int) (b0 o0 n cap : Nat) (w : World) (hl : zs.length = n) (hn : n ≤ 1000) (hcap : n ≤ cap) (hz : SlI w (some ⟨b0, o0, none⟩) zs) :
    Calls Try.prog 68 #[.slice (some ⟨b0, o0, none⟩) n cap] w fun e w' => e = .returned (.bool (permB zs)) ∧ Ex w w' := by
  subst hl
  have hwr : IntKind.i64.wrap ((zs.length : Int) - 1) = (zs.length : Int) - 1 := IntWalk.i64_in _ (by omega)
  obtain ⟨r, hr⟩ : ∃ r, permB zs = r := ⟨_, rfl⟩
  have H0 := Lib.hid (show r = permQ zs (zs.length - 0) 0 from hr.symm)
  rw [hr]
  clear hr
  have Hz := Lib.hid hz
  clear hz
  go_enter Try.func68, Try.ntmps68
  go_wp2
  go_loopw [3] (fun v wr => ∃ k : Nat, k ≤ zs.length ∧ v = .int .i64 k ∧ Ex w wr ∧ r = permQ zs (zs.length - k) k) (fun v _ => zs.length - (intOf v).toNat)
  case atStart => exact ⟨0, Nat.zero_le _, rfl, Ex.refl _, H0.out⟩
  case round =>
    obtain ⟨k, hk, rfl, hE, hf⟩ := hrel
    have Hf := Lib.hid hf
    clear hf
    by_cases hlt : k < zs.length
    · have hzr := Hz.out.ex hE
      obtain ⟨b, o, eb, hb, h1⟩ := hzr k hlt
      cases eb
      have Ht := Lib.hid (hzr.take k)
      clear hzr
      have Hd := Lib.hid (show permQ zs (zs.length - k) k = (goodI zs k zs[k] && permQ zs (zs.length - (k + 1)) (k + 1)) by
        rw [show zs.length - k = (zs.length - (k + 1)) + 1 by omega]
        simp [permQ, List.getD_eq_getElem?_getD, hlt])
      have htl : (zs.take k).length = k := by simp; omega
      generalize zs[k] = y at *
      cases hin : inR y 0 ((zs.length : Int) - 1)
      · have hr : r = false := by rw [Hf.out, Hd.out]; simp [goodI, hin]
        subst hr
        go_wp2_with (refine region_quiet (by kernel_rfl) (by kernel_rfl) ?_; (repeat (go_big_quiet_step ((go_at_call 35; exact (l1In_r' (by assumption)).mono (by rintro e w' ⟨rfl, y, rfl⟩; exact ⟨rfl, by simp only [ext_ext, Ext.app_assoc]; exact ⟨_, rfl⟩⟩))))); refine wpQuiet_nil ?_; rintro _ ⟨x, rfl⟩)
        go_ret
        exact ⟨rfl, hE.trans (by exact by repeat (first | exact Ex.refl _ | refine Ex.ext ?_ _ | refine Ex.alloc ?_ _ | refine Ex.drew ?_))⟩
      · obtain ⟨q, hq⟩ : ∃ q, (zs.take k).contains y = q := ⟨_, rfl⟩
        have Hq := Lib.hid hq
        clear hq
        have Hg := Lib.hid (show goodI zs k y = !q by simp only [goodI, hin, Hq.out]; rfl)
        cases q
        all_goals
          go_wp2_with (refine region_quiet (by kernel_rfl) (by kernel_rfl) ?_; (repeat (go_big_quiet_step (first | (go_at_call 35; exact (l1In_r' (by assumption)).mono (by rintro e w' ⟨rfl, y, rfl⟩; exact ⟨rfl, by simp only [ext_ext, Ext.app_assoc]; exact ⟨_, rfl⟩⟩)) | (go_at_call 85; exact (l1Has_c (zs.take k) y _ _ _ _ htl (by omega) (Ht.out.ex (by exact by repeat (first | exact Ex.refl _ | refine Ex.ext ?_ _ | refine Ex.alloc ?_ _ | refine Ex.drew ?_)))).mono (by rw [Hq.out]; rintro e w' ⟨rfl, y, rfl⟩; exact ⟨rfl, by simp only [ext_ext, Ext.app_assoc]; exact ⟨_, rfl⟩⟩))))); refine wpQuiet_nil ?_; rintro _ ⟨x, rfl⟩)
        · go_roundw
          case rel =>
            (try ((repeat apply Exists.intro); refine ⟨?_, rfl⟩))
            refine ⟨k + 1, by omega, by go_num, hE.trans (by exact by repeat (first | exact Ex.refl _ | refine Ex.ext ?_ _ | refine Ex.alloc ?_ _ | refine Ex.drew ?_)), ?_⟩
            rw [Hf.out, Hd.out, Hg.out]; rfl
          case measure => simp [intOf]; omega
        · have hr : r = false := by rw [Hf.out, Hd.out, Hg.out]; rfl
          subst hr
          go_ret
          exact ⟨rfl, hE.trans (by exact by repeat (first | exact Ex.refl _ | refine Ex.ext ?_ _ | refine Ex.alloc ?_ _ | refine Ex.drew ?_))⟩
    · have : k = zs.length := by omega
      subst this
      have hr : r = true := by rw [Hf.out, Nat.sub_self]; rfl
      subst hr
      go_wp2
      go_ret
      exact ⟨rfl, hE⟩
end Go.Proofs.Ytkmnnnhnajnefaa
