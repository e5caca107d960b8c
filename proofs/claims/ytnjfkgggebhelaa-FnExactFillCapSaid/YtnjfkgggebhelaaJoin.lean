/- The law on JoinCaps. -/
import Derived.Test.YtnjfkgggebhelaaSortL
import Derived.Test.YtnjfkgggebhelaaCapC
namespace Go.Proofs.Ytnjfkgggebhelaa
set_option linter.unusedSimpArgs false
set_option linter.unusedVariables false
set_option maxHeartbeats 1000000
set_option maxRecDepth 100000
open Go.RowKit

theorem sortU_asc' {cs : List C4} (h : Asc cs) : sortU cs = cs :=
  srt_unique (sortU_srt h.ok) h.asc fun x => mem_sortU h.ok x
theorem Srt.nodup {cs : List C4} (h : Srt cs) : cs.Nodup := List.Pairwise.imp (fun {a b} (hab : num a < num b) e => by subst e; omega) h
def jcB (g h : List C4) : Bool := handB g && (handB h && (capB g && (capB h && (capB (sortU (g ++ h)) && decide ((sortU (g ++ h)).length ≤ 27)))))
def jcR (g h : List C4) : List C4 := if jcB g h then sortU (g ++ h) else []
theorem jcR_len (g h : List C4) : (jcR g h).length ≤ 27 := by
  unfold jcR; split
  · rename_i e; simp only [jcB, Bool.and_eq_true, decide_eq_true_iff] at e; exact e.2.2.2.2.2
  · simp
theorem join_fold {g h : List C4} (ha : Asc g) : h.foldl putC g = sortU (g ++ h) := by
  have := sortU_asc' ha
  unfold sortU at this ⊢
  rw [List.foldl_append, this]
theorem join_ok {g h : List C4} (hg : ∀ z ∈ g, Ok z) (hh : ∀ z ∈ h, Ok z) : ∀ z ∈ g ++ h, Ok z := fun z hz => by
  rcases List.mem_append.1 hz with e | e
  · exact hg z e
  · exact hh z e
theorem l3Cap_n {cs : List C4} {p : Option Addr} {n cap : Nat} {w : World} {r : Bool} (hl : cs.length = n) (hr : capB cs = r) (hn : n ≤ 1000) (hok : ∀ z ∈ cs, Ok z) (hz : Sl w p cs) :
    Calls Try.prog 52 #[.slice p n cap] w fun e w' => e = .returned (.bool r) ∧ Ex w w' := by
  subst hl; subst hr; exact l3Cap_c cs p cap w hn hok hz
theorem isCap_n {cs : List C4} {p : Option Addr} {n cap : Nat} {w : World} {r : Bool} (hl : cs.length = n) (hr : capB cs = r) (hn : n ≤ 1000) (hnd : cs.Nodup) (hok : ∀ z ∈ cs, Ok z) (hz : Sl w p cs) :
    Calls Try.prog 54 #[.slice p n cap] w fun e w' => e = .returned (.bool r) ∧ Ex w w' := by
  subst hl; subst hr; exact isCap_c cs p cap w hn hnd hok hz
def HandAt (w0 : World) (p : Option Addr) (n cap : Nat) (r : Bool) : Prop := ∃ cs, cs.length = n ∧ n ≤ 1000000000000 ∧ handB cs = r ∧ Sl w0 p cs
def CapAt (w0 : World) (p : Option Addr) (n cap : Nat) (r : Bool) : Prop := ∃ cs, cs.length = n ∧ n ≤ 1000 ∧ capB cs = r ∧ Asc cs ∧ Sl w0 p cs
theorem l2Hand_q {w0 w : World} {p : Option Addr} {n cap : Nat} {r : Bool} (h : HandAt w0 p n cap r) (hE : Ex w0 w) : Calls Try.prog 45 #[.slice p n cap] w fun e w' => e = .returned (.bool r) ∧ Ex w w' := by
  obtain ⟨cs, rfl, hn, rfl, hz⟩ := h
  exact l2Hand_c cs p cap w hn (hz.ex hE)
theorem isHand_q {w0 w : World} {p : Option Addr} {n cap : Nat} {r : Bool} (h : HandAt w0 p n cap r) (hE : Ex w0 w) : Calls Try.prog 48 #[.slice p n cap] w fun e w' => e = .returned (.bool r) ∧ Ex w w' := by
  obtain ⟨cs, rfl, hn, rfl, hz⟩ := h
  exact implIsHand_c cs p cap w hn (hz.ex hE)
theorem l3Cap_q {w0 w : World} {p : Option Addr} {n cap : Nat} {r : Bool} (h : CapAt w0 p n cap r) (hE : Ex w0 w) : Calls Try.prog 52 #[.slice p n cap] w fun e w' => e = .returned (.bool r) ∧ Ex w w' := by
  obtain ⟨cs, rfl, hn, rfl, ha, hz⟩ := h
  exact l3Cap_c cs p cap w hn ha.ok (hz.ex hE)
theorem isCap_q {w0 w : World} {p : Option Addr} {n cap : Nat} {r : Bool} (h : CapAt w0 p n cap r) (hE : Ex w0 w) : Calls Try.prog 54 #[.slice p n cap] w fun e w' => e = .returned (.bool r) ∧ Ex w w' := by
  obtain ⟨cs, rfl, hn, rfl, ha, hz⟩ := h
  exact isCap_c cs p cap w hn ha.nodup ha.ok (hz.ex hE)
theorem l2Own_n3 {cs : List C4} {b o n cap : Nat} {w : World} (hl : cs.length = n) (hn : n ≤ 1000000000) (hz : Sl w (some ⟨b, o, none⟩) cs) :
    Calls Try.prog 53 #[.slice (some ⟨b, o, none⟩) n cap] w fun e w' => ∃ g cap', e = .returned (.slice (some ⟨g, 0, none⟩) n cap') ∧ Ex w w' ∧ Row w.heap.size w'.heap.size w' (some ⟨g, 0, none⟩) cap' cs := by
  subst hl; exact l2Own_s hn (Or.inr ⟨b, o, cap, rfl, hz⟩)

theorem sorted_m {cs : List C4} {b o n cap : Nat} {w : World} {r : List C4} (hl : cs.length = n) (hr : sortU cs = r) (hn : n ≤ 100000000) (ho : ∀ z ∈ cs, Ok z) (hz : Sl w (some ⟨b, o, none⟩) cs) :
    Calls Try.prog 43 #[.slice (some ⟨b, o, none⟩) n cap] w fun e w' => ∃ g cap', e = .returned (.slice (some ⟨g, 0, none⟩) r.length cap') ∧ Ex w w' ∧ RowV 29 4 w.heap.size w' g cap' r.length (cellsOf r) := by
  subst hl; subst hr; exact sorted_c cs b o cap w hn ho hz

theorem specJoinCaps_c (cs ds : List C4) (b b2 : Nat) (cap cap2 : Nat) (w : World) (hn : cs.length ≤ 100000000) (hn2 : ds.length ≤ 100000000) (hz : Sl w (some ⟨b, 0, none⟩) cs) (hy : Sl w (some ⟨b2, 0, none⟩) ds) :
    Calls Try.prog 22 #[.slice (some ⟨b, 0, none⟩) cs.length cap, .slice (some ⟨b2, 0, none⟩) ds.length cap2] w fun e w' => ∃ q cap', e = .returned (.tuple #[.slice q (jcR cs ds).length cap', .bool (jcB cs ds)]) ∧ Ex w w' ∧ Row w.heap.size w'.heap.size w' q cap' (jcR cs ds) := by
  have Hz := Lib.hid hz
  have Hy := Lib.hid hy
  clear hz hy
  by_cases h0 : (handB cs && handB ds) = true
  · simp only [Bool.and_eq_true] at h0
    obtain ⟨h1, h2⟩ := h0
    have H1 : HandAt w (some ⟨b, 0, none⟩) cs.length cap true := ⟨cs, rfl, by omega, h1, Hz.out⟩
    have H2 : HandAt w (some ⟨b2, 0, none⟩) ds.length cap2 true := ⟨ds, rfl, by omega, h2, Hy.out⟩
    have HA := Lib.hid (And.intro ((handB_iff cs).1 h1).1 ((handB_iff ds).1 h2).1)
    have hl1 := (handB_ok h1).2
    have hl2 := (handB_ok h2).2
    by_cases h5 : (capB cs && capB ds) = true
    · simp only [Bool.and_eq_true] at h5
      obtain ⟨h3, h4⟩ := h5
      have H3 : CapAt w (some ⟨b, 0, none⟩) cs.length cap true := ⟨cs, rfl, by omega, h3, HA.out.1, Hz.out⟩
      have H4 : CapAt w (some ⟨b2, 0, none⟩) ds.length cap2 true := ⟨ds, rfl, by omega, h4, HA.out.2, Hy.out⟩
      have HJ := Lib.hid (join_fold (h := ds) HA.out.1)
      have HO := Lib.hid (join_ok HA.out.1.ok HA.out.2.ok)
      have HS := Lib.hid (sortU_ok HO.out)
      have HN := Lib.hid (sortU_srt HO.out)
      have hsl := sortU_len (cs ++ ds)
      rw [List.length_append] at hsl
      have HB : Hid (jcB cs ds = (capB (sortU (cs ++ ds)) && decide ((sortU (cs ++ ds)).length ≤ 27))) := Lib.hid (by simp [jcB, h1, h2, h3, h4])
      clear h1 h2 h3 h4
      have HR := Lib.hid (show jcR cs ds = if jcB cs ds then sortU (cs ++ ds) else [] from rfl)
      obtain ⟨out, ho⟩ : ∃ out, out = sortU (cs ++ ds) := ⟨_, rfl⟩
      rw [← ho] at HJ HS HN hsl HB HR
      have Ho := Lib.hid ho
      clear ho
      go_enter Try.func22, Try.ntmps22
      go_wp2_with (first | (first | (go_at_call 45; refine (l2Hand_q (w0 := w) (by assumption) (by exact by repeat (first | exact Ex.refl _ | refine Ex.ext ?_ _ | refine Ex.alloc ?_ _ | refine Ex.drew ?_))).mono ?_; rintro e w' ⟨rfl, x, rfl⟩) | (go_at_call 52; refine (l3Cap_q (w0 := w) (by assumption) (by exact by repeat (first | exact Ex.refl _ | refine Ex.ext ?_ _ | refine Ex.alloc ?_ _ | refine Ex.drew ?_))).mono ?_; rintro e w' ⟨rfl, x, rfl⟩)) | (go_at_call 53; refine (l2Own_n3 rfl (by omega) (Hz.out.ex (by exact by repeat (first | exact Ex.refl _ | refine Ex.ext ?_ _ | refine Ex.alloc ?_ _ | refine Ex.drew ?_)))).mono ?_; rintro e w1 ⟨g1, c1, rfl, hx, hr1⟩; have hE1 := Ex.trans (show Ex w _ by exact by repeat (first | exact Ex.refl _ | refine Ex.ext ?_ _ | refine Ex.alloc ?_ _ | refine Ex.drew ?_)) hx; have hr1 := hr1.own; have hr1 := own_base hr1 (Ex.below (show Ex w _ by exact by repeat (first | exact Ex.refl _ | refine Ex.ext ?_ _ | refine Ex.alloc ?_ _ | refine Ex.drew ?_))).size))
      go_loopw [6, 7] (fun u v wr => ∃ (k m g cap' : Nat), k ≤ ds.length ∧ v = .int .i64 k ∧ u = .slice (some ⟨g, 0, none⟩) m cap' ∧ ((ds.take k).foldl putC cs).length = m ∧ m ≤ cs.length + k ∧ Ex w wr ∧ RowV 29 4 w.heap.size wr g cap' m (cellsOf ((ds.take k).foldl putC cs))) (fun _ v _ => ds.length - (intOf v).toNat)
      case atStart => exact ⟨0, cs.length, g1, c1, Nat.zero_le _, rfl, rfl, rfl, Nat.le_refl _, hE1, hr1⟩
      case round =>
        obtain ⟨k, m, g, cap', hk, rfl, rfl, hm, hmk, hE, hrow⟩ := hrel
        have HE := Lib.hid hE
        have HR1 := Lib.hid hrow
        have HM := Lib.hid hm
        by_cases hlt : k < ds.length
        · obtain ⟨b', o', e', hb, a1, a2, a3, a4⟩ := (Hy.out.ex hE) k hlt
          simp at e'
          obtain ⟨rfl, rfl⟩ := e'
          simp only [Nat.zero_add] at a1 a2 a3 a4
          have hzo := Lib.hid (HA.out.2.ok ds[k] (List.getElem_mem _))
          have Hs := Lib.hid (show (ds.take (k + 1)).foldl putC cs = putC ((ds.take k).foldl putC cs) ds[k] by rw [takeC_snoc hlt, List.foldl_append]; rfl)
          have hcm := hrow.lens.1
          have Hok := Lib.hid (foldl_putC_ok (ds.take k) cs (fun z hz => HA.out.2.ok z (List.mem_of_mem_take hz)) HA.out.1.ok)
          have Hsl := Lib.hid ((hrow.row hm.symm).sl)
          clear hE hrow hm
          generalize ds[k] = z at *
          go_wp2_with (go_at_call 47; refine (l2Put_n HM.out (by omega) hcm Hok.out hzo.out Hsl.out).mono ?_; rintro e wX ⟨g2, cap2, rfl, hx, hr2⟩)
          go_roundw
          case rel =>
            have hl2 := putC_len ((ds.take k).foldl putC cs) z
            have hbk := HE.out.below.size
            (try ((repeat apply Exists.intro); refine ⟨?_, rfl⟩))
            refine ⟨k + 1, _, g2, cap2, by omega, by go_num, rfl, by rw [Hs.out], by have := HM.out; omega, HE.out.trans hx, ?_⟩
            rw [Hs.out]
            exact hr2.low hbk
          case measure => simp [intOf]; omega
        · have hkn : k = ds.length := by omega
          subst hkn
          clear hE hrow hm
          have e1 := HM.out
          have e2 := HR1.out
          rw [List.take_length, HJ.out] at e1 e2
          subst e1
          have Hr := Lib.hid e2
          have Hsl := Lib.hid ((e2.row rfl).sl)
          clear e2
          cases h6 : capB out
          all_goals by_cases h7 : out.length ≤ 27
          all_goals (try have h8 : (27 : Int) < (out.length : Int) := by omega)
          all_goals (try have h9 : ¬ ((27 : Int) < (out.length : Int)) := by omega)
          all_goals
            go_wp2_with (go_at_call 52; refine (l3Cap_n rfl h6 (by omega) HS.out (Hsl.out.ex (by exact by repeat (first | exact Ex.refl _ | refine Ex.ext ?_ _ | refine Ex.alloc ?_ _ | refine Ex.drew ?_)))).mono ?_; rintro e w' ⟨rfl, x, rfl⟩)
            go_ret2
            rw [HR.out, HB.out, h6]
            simp only [h7, decide_true, decide_false, Bool.and_false, Bool.and_true, Bool.false_and, Bool.true_and, if_true, if_false, Bool.false_eq_true]
            first
              | exact ⟨some ⟨g, 0, none⟩, cap', rfl, HE.out.trans (by repeat (first | exact Ex.refl _ | refine Ex.ext ?_ _ | refine Ex.alloc ?_ _ | refine Ex.drew ?_)), (Hr.out.ex (by repeat (first | exact Ex.refl _ | refine Ex.ext ?_ _ | refine Ex.alloc ?_ _ | refine Ex.drew ?_))).row rfl⟩
              | exact ⟨some ⟨_, 0, none⟩, 0, by simp [ext_size], HE.out.trans (by repeat (first | exact Ex.refl _ | refine Ex.ext ?_ _ | refine Ex.alloc ?_ _ | refine Ex.drew ?_)), (Row.empty _).mono (by have := HE.out.below.size; simp [ext_size]; omega) (by first | (simp; done) | (simp [ext_size]; done) | (simp [ext_size]; omega) | omega)⟩
    · have hB : jcB cs ds = false := by
        cases h3 : capB cs <;> cases h4 : capB ds <;> simp [jcB, h3, h4] <;> simp [h3, h4] at h5
      have hR : jcR cs ds = [] := by simp [jcR, hB]
      rw [hB, hR]
      clear hB hR
      cases h3 : capB cs
      all_goals cases h4 : capB ds
      all_goals first
        | (exfalso; simp [h3, h4] at h5; done)
        | (have H3 : CapAt w (some ⟨b, 0, none⟩) cs.length cap _ := ⟨cs, rfl, by omega, h3, HA.out.1, Hz.out⟩
           have H4 : CapAt w (some ⟨b2, 0, none⟩) ds.length cap2 _ := ⟨ds, rfl, by omega, h4, HA.out.2, Hy.out⟩
           clear h1 h2 h3 h4 h5
           go_enter Try.func22, Try.ntmps22
           go_wp2_with (first | (go_at_call 45; refine (l2Hand_q (w0 := w) (by assumption) (by exact by repeat (first | exact Ex.refl _ | refine Ex.ext ?_ _ | refine Ex.alloc ?_ _ | refine Ex.drew ?_))).mono ?_; rintro e w' ⟨rfl, x, rfl⟩) | (go_at_call 52; refine (l3Cap_q (w0 := w) (by assumption) (by exact by repeat (first | exact Ex.refl _ | refine Ex.ext ?_ _ | refine Ex.alloc ?_ _ | refine Ex.drew ?_))).mono ?_; rintro e w' ⟨rfl, x, rfl⟩))
           go_ret2
           exact ⟨some ⟨_, 0, none⟩, 0, by simp [ext_size], by repeat (first | exact Ex.refl _ | refine Ex.ext ?_ _ | refine Ex.alloc ?_ _ | refine Ex.drew ?_), (Row.empty _).mono (by first | (simp; done) | (simp [ext_size]; done) | (simp [ext_size]; omega) | omega) (by first | (simp; done) | (simp [ext_size]; done) | (simp [ext_size]; omega) | omega)⟩)
  · have hB : jcB cs ds = false := by
      cases h1 : handB cs <;> cases h2 : handB ds <;> simp [jcB, h1, h2] <;> simp [h1, h2] at h0
    have hR : jcR cs ds = [] := by simp [jcR, hB]
    rw [hB, hR]
    clear hB hR
    cases h1 : handB cs
    all_goals cases h2 : handB ds
    all_goals first
      | (exfalso; simp [h1, h2] at h0; done)
      | (have H1 : HandAt w (some ⟨b, 0, none⟩) cs.length cap _ := ⟨cs, rfl, by omega, h1, Hz.out⟩
         have H2 : HandAt w (some ⟨b2, 0, none⟩) ds.length cap2 _ := ⟨ds, rfl, by omega, h2, Hy.out⟩
         clear h0 h1 h2
         go_enter Try.func22, Try.ntmps22
         go_wp2_with (go_at_call 45; refine (l2Hand_q (w0 := w) (by assumption) (by exact by repeat (first | exact Ex.refl _ | refine Ex.ext ?_ _ | refine Ex.alloc ?_ _ | refine Ex.drew ?_))).mono ?_; rintro e w' ⟨rfl, x, rfl⟩)
         go_ret2
         exact ⟨some ⟨_, 0, none⟩, 0, by simp [ext_size], by repeat (first | exact Ex.refl _ | refine Ex.ext ?_ _ | refine Ex.alloc ?_ _ | refine Ex.drew ?_), (Row.empty _).mono (by first | (simp; done) | (simp [ext_size]; done) | (simp [ext_size]; omega) | omega) (by first | (simp; done) | (simp [ext_size]; done) | (simp [ext_size]; omega) | omega)⟩)

theorem implJoinCaps_c (cs ds : List C4) (b b2 : Nat) (cap cap2 : Nat) (w : World) (hn : cs.length ≤ 100000000) (hn2 : ds.length ≤ 100000000) (hz : Sl w (some ⟨b, 0, none⟩) cs) (hy : Sl w (some ⟨b2, 0, none⟩) ds) :
    Calls Try.prog 23 #[.slice (some ⟨b, 0, none⟩) cs.length cap, .slice (some ⟨b2, 0, none⟩) ds.length cap2] w fun e w' => ∃ q cap', e = .returned (.tuple #[.slice q (jcR cs ds).length cap', .bool (jcB cs ds)]) ∧ Ex w w' ∧ Row w.heap.size w'.heap.size w' q cap' (jcR cs ds) := by
  have Hz := Lib.hid hz
  have Hy := Lib.hid hy
  clear hz hy
  by_cases h0 : (handB cs && handB ds) = true
  · simp only [Bool.and_eq_true] at h0
    obtain ⟨h1, h2⟩ := h0
    have H1 : HandAt w (some ⟨b, 0, none⟩) cs.length cap true := ⟨cs, rfl, by omega, h1, Hz.out⟩
    have H2 : HandAt w (some ⟨b2, 0, none⟩) ds.length cap2 true := ⟨ds, rfl, by omega, h2, Hy.out⟩
    have HA := Lib.hid (And.intro ((handB_iff cs).1 h1).1 ((handB_iff ds).1 h2).1)
    have hl1 := (handB_ok h1).2
    have hl2 := (handB_ok h2).2
    by_cases h5 : (capB cs && capB ds) = true
    · simp only [Bool.and_eq_true] at h5
      obtain ⟨h3, h4⟩ := h5
      have H3 : CapAt w (some ⟨b, 0, none⟩) cs.length cap true := ⟨cs, rfl, by omega, h3, HA.out.1, Hz.out⟩
      have H4 : CapAt w (some ⟨b2, 0, none⟩) ds.length cap2 true := ⟨ds, rfl, by omega, h4, HA.out.2, Hy.out⟩
      have HJ := Lib.hid (join_fold (h := ds) HA.out.1)
      have HO := Lib.hid (join_ok HA.out.1.ok HA.out.2.ok)
      have HS := Lib.hid (sortU_ok HO.out)
      have HN := Lib.hid (sortU_srt HO.out)
      have hsl := sortU_len (cs ++ ds)
      rw [List.length_append] at hsl
      have HB : Hid (jcB cs ds = (capB (sortU (cs ++ ds)) && decide ((sortU (cs ++ ds)).length ≤ 27))) := Lib.hid (by simp [jcB, h1, h2, h3, h4])
      clear h1 h2 h3 h4
      have HR := Lib.hid (show jcR cs ds = if jcB cs ds then sortU (cs ++ ds) else [] from rfl)
      obtain ⟨out, ho⟩ : ∃ out, out = sortU (cs ++ ds) := ⟨_, rfl⟩
      rw [← ho] at HJ HS HN hsl HB HR
      have Ho := Lib.hid ho
      clear ho
      have own0 := own_empty w 29 4
      cases h6 : capB out
      all_goals by_cases h7 : out.length ≤ 27
      all_goals (try have h8 : (27 : Int) < (out.length : Int) := by omega)
      all_goals (try have h9 : ¬ ((27 : Int) < (out.length : Int)) := by omega)
      all_goals
        go_enter Try.func23, Try.ntmps23
        go_upto_region 3 with (first | (go_at_call 48; refine (isHand_q (w0 := w) (by assumption) (by exact by repeat (first | exact Ex.refl _ | refine Ex.ext ?_ _ | refine Ex.alloc ?_ _ | refine Ex.drew ?_))).mono ?_; rintro e w' ⟨rfl, x, rfl⟩) | (go_at_call 54; refine (isCap_q (w0 := w) (by assumption) (by exact by repeat (first | exact Ex.refl _ | refine Ex.ext ?_ _ | refine Ex.alloc ?_ _ | refine Ex.drew ?_))).mono ?_; rintro e w' ⟨rfl, x, rfl⟩))
        (try simp only [ext_ext])
        generalize hw0 : ext w _ = w0
        have hEw : Ex w w0 := ⟨_, hw0.symm⟩
        clear hw0
        have own0 := own_empty w0 29 4
        go_wp2_with (first
          | (at_builtin; refine list_apps (W0 := w0) rfl hE1 rfl _ _ rfl (.slice (some ⟨g1, 0, none⟩) cs.length c1) cs.length cs rfl hr1 ds.length ds rfl (Or.inr ⟨b2, 0, cap2, rfl, Hy.out.ex (hEw.trans hE1)⟩) (by omega) ?_; intro p2 c2 w2 hown2 hp2 hnn2 hE2; obtain ⟨g2, rfl, hr2⟩ := own_some hown2 (fun e => by have := (hnn2 e).1; simp at this))
          | (at_builtin; refine list_apps (W0 := w0) rfl (by repeat (first | exact Ex.refl _ | refine Ex.ext ?_ _ | refine Ex.alloc ?_ _ | refine Ex.drew ?_)) rfl _ _ rfl (.slice (some ⟨w0.heap.size, 0, none⟩) 0 0) 0 [] rfl own0 cs.length cs rfl (Or.inr ⟨b, 0, cap, rfl, Hz.out.ex (hEw.trans (by exact by repeat (first | exact Ex.refl _ | refine Ex.ext ?_ _ | refine Ex.alloc ?_ _ | refine Ex.drew ?_)))⟩) (by omega) ?_; intro p1 c1 w1 hown hp hnn hE1; simp only [Nat.zero_add, List.nil_append] at hown ⊢; obtain ⟨g1, rfl, hr1⟩ := own_some hown (fun e => by have := (hnn e).1; simp at this))
          | (go_at_call 43; refine (sorted_m (by rw [List.length_append]) Ho.out.symm (by omega) HO.out ((hr2.row (by rw [List.length_append])).sl)).mono ?_; rintro e w3 ⟨g3, c3, rfl, hx3, hr3⟩; have hE3 := hEw.trans (hE2.trans hx3); have hr3 := hr3.low (hEw.trans hE2).below.size; have Hsl := Lib.hid ((hr3.row rfl).sl))
          | (go_at_call 54; refine (isCap_n rfl h6 (by omega) HN.out.nodup HS.out (Hsl.out.ex (by exact by repeat (first | exact Ex.refl _ | refine Ex.ext ?_ _ | refine Ex.alloc ?_ _ | refine Ex.drew ?_)))).mono ?_; rintro e w' ⟨rfl, x, rfl⟩))
        go_ret2
        rw [HR.out, HB.out, h6]
        simp only [h7, decide_true, decide_false, Bool.and_false, Bool.and_true, Bool.false_and, Bool.true_and, if_true, if_false, Bool.false_eq_true]
        first
          | exact ⟨some ⟨g3, 0, none⟩, c3, rfl, hE3.trans (by repeat (first | exact Ex.refl _ | refine Ex.ext ?_ _ | refine Ex.alloc ?_ _ | refine Ex.drew ?_)), (hr3.ex (by repeat (first | exact Ex.refl _ | refine Ex.ext ?_ _ | refine Ex.alloc ?_ _ | refine Ex.drew ?_))).row rfl⟩
          | exact ⟨none, 0, rfl, hE3.trans (by repeat (first | exact Ex.refl _ | refine Ex.ext ?_ _ | refine Ex.alloc ?_ _ | refine Ex.drew ?_)), Row.nil _ _ _⟩
    · have hB : jcB cs ds = false := by
        cases h3 : capB cs <;> cases h4 : capB ds <;> simp [jcB, h3, h4] <;> simp [h3, h4] at h5
      have hR : jcR cs ds = [] := by simp [jcR, hB]
      rw [hB, hR]
      clear hB hR
      cases h3 : capB cs
      all_goals cases h4 : capB ds
      all_goals first
        | (exfalso; simp [h3, h4] at h5; done)
        | (have H3 : CapAt w (some ⟨b, 0, none⟩) cs.length cap _ := ⟨cs, rfl, by omega, h3, HA.out.1, Hz.out⟩
           have H4 : CapAt w (some ⟨b2, 0, none⟩) ds.length cap2 _ := ⟨ds, rfl, by omega, h4, HA.out.2, Hy.out⟩
           clear h1 h2 h3 h4 h5
           go_enter Try.func23, Try.ntmps23
           go_wp2_with (first | (go_at_call 48; refine (isHand_q (w0 := w) (by assumption) (by exact by repeat (first | exact Ex.refl _ | refine Ex.ext ?_ _ | refine Ex.alloc ?_ _ | refine Ex.drew ?_))).mono ?_; rintro e w' ⟨rfl, x, rfl⟩) | (go_at_call 54; refine (isCap_q (w0 := w) (by assumption) (by exact by repeat (first | exact Ex.refl _ | refine Ex.ext ?_ _ | refine Ex.alloc ?_ _ | refine Ex.drew ?_))).mono ?_; rintro e w' ⟨rfl, x, rfl⟩))
           go_ret2
           exact ⟨none, 0, rfl, by repeat (first | exact Ex.refl _ | refine Ex.ext ?_ _ | refine Ex.alloc ?_ _ | refine Ex.drew ?_), Row.nil _ _ _⟩)
  · have hB : jcB cs ds = false := by
      cases h1 : handB cs <;> cases h2 : handB ds <;> simp [jcB, h1, h2] <;> simp [h1, h2] at h0
    have hR : jcR cs ds = [] := by simp [jcR, hB]
    rw [hB, hR]
    clear hB hR
    cases h1 : handB cs
    all_goals cases h2 : handB ds
    all_goals first
      | (exfalso; simp [h1, h2] at h0; done)
      | (have H1 : HandAt w (some ⟨b, 0, none⟩) cs.length cap _ := ⟨cs, rfl, by omega, h1, Hz.out⟩
         have H2 : HandAt w (some ⟨b2, 0, none⟩) ds.length cap2 _ := ⟨ds, rfl, by omega, h2, Hy.out⟩
         clear h0 h1 h2
         go_enter Try.func23, Try.ntmps23
         go_wp2_with (go_at_call 48; refine (isHand_q (w0 := w) (by assumption) (by exact by repeat (first | exact Ex.refl _ | refine Ex.ext ?_ _ | refine Ex.alloc ?_ _ | refine Ex.drew ?_))).mono ?_; rintro e w' ⟨rfl, x, rfl⟩)
         go_ret2
         exact ⟨none, 0, rfl, by repeat (first | exact Ex.refl _ | refine Ex.ext ?_ _ | refine Ex.alloc ?_ _ | refine Ex.drew ?_), Row.nil _ _ _⟩)
end Go.Proofs.Ytnjfkgggebhelaa
