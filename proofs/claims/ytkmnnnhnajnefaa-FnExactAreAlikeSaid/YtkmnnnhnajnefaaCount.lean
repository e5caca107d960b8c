/- The walks of CountCaps. -/
import Derived.Test.YtkmnnnhnajnefaaVisP
import Derived.Test.YtkmnnnhnajnefaaOwn
import Derived.ArgAppend
namespace Go.Proofs.Ytkmnnnhnajnefaa
set_option linter.unusedSimpArgs false
set_option linter.unusedVariables false
set_option maxHeartbeats 1000000
set_option maxRecDepth 100000
open Go.RowKit

theorem intVals_one (zs : List Int) : ∀ u ∈ intVals zs, u.oneCell' = true := by
  intro u hu
  simp only [intVals, List.mem_map] at hu
  obtain ⟨z, _, rfl⟩ := hu
  rfl
theorem SlI.cells {w : World} {b o : Nat} {zs : List Int} (h : SlI w (some ⟨b, o, none⟩) zs) : ∀ j u, (intVals zs)[j]? = some u → w.cell? ((⟨b, o, none⟩ : Addr).add j) = some u := by
  intro j u hu
  rw [show (⟨b, o, none⟩ : Addr).add j = ⟨b, o + j, none⟩ by unfold Addr.add; split <;> simp_all]
  have hj : j < zs.length := by
    have := (List.getElem?_eq_some_iff.1 hu).1
    simpa using this
  obtain ⟨b', o', e, hb, h1⟩ := h j hj
  simp at e
  obtain ⟨rfl, rfl⟩ := e
  rw [h1, ← hu, intVals_get zs j hj]

theorem l1Own_c (zs : List Int) (b o n cap : Nat) (w : World) (hl : zs.length = n) (hn : n ≤ 1000000) (hz : SlI w (some ⟨b, o, none⟩) zs) :
    Calls Try.prog 64 #[.slice (some ⟨b, o, none⟩) n cap] w fun e w' => ∃ g cap', e = .returned (.slice (some ⟨g, 0, none⟩) n cap') ∧ Ex w w' ∧ RowV 3 1 w.heap.size w' g cap' n (intVals zs) := by
  have Hz := Lib.hid hz
  clear hz
  have own0 := own_empty w 3 1
  obtain ⟨i, z, hi, hzz, hsize, hby, hzs⟩ := rowInt.info
  go_enter Try.func64, Try.ntmps64
  go_wp2_with (at_builtin; refine wpList_append_own _ rfl _ _ 29 rfl w.heap.size 3 i z 1 8 rowInt.under hi hzz hsize hby hzs rowInt.pos (.slice (some ⟨w.heap.size, 0, none⟩) 0 0) 0 [] rfl own0 ⟨b, o, none⟩ n cap (intVals zs) rfl (by simp [hl]) (Hz.out.ex (by exact by repeat (first | exact Ex.refl _ | refine Ex.ext ?_ _ | refine Ex.alloc ?_ _ | refine Ex.drew ?_))).cells (intVals_one zs) (by unfold maxLen; omega) (by omega) (by simp) ?_; intro v' w' hown hg hnil; obtain ⟨p1, c1, rfl, hp1⟩ := own_form hown; simp only [Nat.zero_add, List.nil_append] at hown hnil ⊢)
  go_ret
  have hE : Ex w w' := Ex.of_below (((Ex.refl w).alloc (.cells #[] 3)).below.grown hg (by simp) (fun k hk => by simp [Value.ownBlock] at hk; omega))
  rcases hown.2 with ⟨h1, h2⟩ | ⟨g, cap2, cur, h1, h2, h3, h4⟩
  · have := (hnil.1 h1).1; simp at this
  · simp at h1
    obtain ⟨rfl, rfl⟩ := h1
    exact ⟨g, c1, by simp, hE, hown⟩

theorem natInts_snoc (P : List Nat) (k : Nat) : natInts (P ++ [k]) = natInts P ++ [(k : Int)] := by simp [natInts]

theorem l3Count_c (cs : List C4) (p : Option Addr) (cap : Nat) (hn : cs.length ≤ 15) (hok : ∀ z ∈ cs, Ok z) : ∀ (d : Nat) (P : List Nat) (i m nP b2 o2 cap2 : Nat) (ii mm : Int) (w : World), i + d = cs.length → ii = i → mm = m → m ≤ 15 → P.length = nP → nP ≤ i → (∀ x ∈ P, x < i) → Sl w p cs → SlI w (some ⟨b2, o2, none⟩) (natInts P) →
    Calls Try.prog 36 #[.slice p cs.length cap, .slice (some ⟨b2, o2, none⟩) nP cap2, .int .i64 ii, .int .i64 mm] w fun e w' => e = .returned (.int .i64 (cntS cs d m P i)) ∧ Ex w w' := by
  intro d
  induction d using Nat.strongRecOn with
  | _ d ih =>
  intro P i m nP b2 o2 cap2 ii mm w hid hii hmm hm hP hPi hPlt hz hy
  have Hz := Lib.hid hz
  have Hy := Lib.hid hy
  have Hok := Lib.hid hok
  have IH := Lib.hid ih
  have HPlt := Lib.hid hPlt
  clear hz hy hok ih hPlt
  subst hii
  subst hmm
  cases m with
  | zero =>
    have e1 : cntS cs d 0 P i = 1 := by cases d <;> rfl
    rw [e1]
    go_enter Try.func36, Try.ntmps36
    go_wp2
    go_ret
    exact ⟨rfl, by repeat (first | exact Ex.refl _ | refine Ex.ext ?_ _ | refine Ex.alloc ?_ _ | refine Ex.drew ?_)⟩
  | succ m =>
    have hm0 : (((m : Int) + 1 == 0)) = false := beq_eq_false_iff_ne.2 (by omega)
    have hbig := cntS_small cs d (m + 1) P i
    have hpow : 2 ^ d ≤ 2 ^ 15 := Nat.pow_le_pow_right (by omega) (by omega)
    simp only [Int.natCast_succ]
    go_enter Try.func36, Try.ntmps36
    go_wp2
    go_loopw [9, 10] (fun u v wr => ∃ (k S : Nat), i ≤ k ∧ k ≤ cs.length ∧ v = .int .i64 k ∧ u = .int .i64 S ∧ Ex w wr ∧ cntS cs d (m + 1) P i = S + cntS cs (cs.length - k) (m + 1) P k) (fun _ v _ => cs.length - (intOf v).toNat)
    case atStart => exact ⟨i, 0, Nat.le_refl _, by omega, rfl, rfl, Ex.refl _, by rw [show cs.length - i = d by omega]; simp⟩
    case round =>
      obtain ⟨k, S, hik, hk, rfl, rfl, hE, hf⟩ := hrel
      have Hf := Lib.hid hf
      clear hf
      by_cases hlt : k < cs.length
      · obtain ⟨dd, hdd⟩ : ∃ dd, cs.length - k = dd + 1 := ⟨cs.length - k - 1, by omega⟩
        have hpk : ∀ x ∈ P, x < cs.length := fun x hx => by have := HPlt.out x hx; omega
        have Hpo := Lib.hid (pick_ok hpk Hok.out)
        have Hpk := Lib.hid hpk
        have HPk := Lib.hid (show ∀ x ∈ P ++ [k], x < k + 1 from fun x hx => by
          simp at hx
          rcases hx with hx | rfl
          · have := HPlt.out x hx; omega
          · omega)
        clear hpk
        have hz := Hz.out.ex hE
        obtain ⟨b, o, rfl, hb, e1, e2, e3, e4⟩ := hz k hlt
        have Hmay := Lib.hid (show mayT cs P k = decide (through (pick cs P) cs[k] = 0) by rw [mayT, List.getD_eq_getElem?_getD, List.getElem?_eq_getElem hlt]; rfl)
        generalize cs[k] = z at *
        have hlen2 : (pick cs P).length ≤ 1000 := by simp; omega
        have hlp : (pick cs P).length = nP := by rw [pick_length, hP]
        obtain ⟨t, ht⟩ : ∃ t, through (pick cs P) z = t := ⟨_, rfl⟩
        have htb : t ≤ 1000000 := by rw [← ht]; exact pairs_small hlen2
        rw [ht] at Hmay
        have Hs := Lib.hid (show cntS cs (dd + 1) (m + 1) P k = (if mayT cs P k then cntS cs dd m (P ++ [k]) (k + 1) else 0) + cntS cs dd (m + 1) P (k + 1) from rfl)
        have hSb : S ≤ 2 ^ 15 := by have := Hf.out; omega
        have hk0 : Ex wr wr := Ex.refl _
        by_cases h0 : t = 0
        all_goals
          go_wp2
          go_region_held3 (fun w' => w'.cell? ⟨b, o + k * 4, none⟩ = some (.int .i64 z.a) ∧ w'.cell? ⟨b, o + k * 4 + 1, none⟩ = some (.int .i64 z.b) ∧ w'.cell? ⟨b, o + k * 4 + 2, none⟩ = some (.int .i64 z.c) ∧ w'.cell? ⟨b, o + k * 4 + 3, none⟩ = some (.int .i64 z.d))
            (first | go_keep | (rw [hk0.below.cell hb, hk0.below.cell hb, hk0.below.cell hb, hk0.below.cell hb]; exact ⟨e1, e2, e3, e4⟩))
            (first | (go_at_call 63; refine (l3Picked_n hP (by omega) (by omega) Hpk.out (hz.ex (by exact by repeat (first | exact Ex.refl _ | refine Ex.ext ?_ _ | refine Ex.alloc ?_ _ | refine Ex.drew ?_))) ((Hy.out.ex hE).ex (by exact by repeat (first | exact Ex.refl _ | refine Ex.ext ?_ _ | refine Ex.alloc ?_ _ | refine Ex.drew ?_)))).mono ?_; rintro e w1 ⟨g1, c1, rfl, hx, hr1⟩; have hk0 : Ex wr w1 := (Ex.trans (by exact by repeat (first | exact Ex.refl _ | refine Ex.ext ?_ _ | refine Ex.alloc ?_ _ | refine Ex.drew ?_)) hx); have hE := hE.trans hk0; have hr1 := (hr1.row hlp.symm); clear hx) |
              (go_at_call 62; refine (l2Through_r hlp ht (by omega) Hpo.out hr1.sl).mono ?_; rintro e w2 ⟨rfl, hx⟩; have hk0 := hk0.trans hx; have hE := hE.trans hx; clear hx))
        · have hmay : mayT cs P k = true := by rw [Hmay.out]; simp [h0]
          have hsm := cntS_small cs dd m (P ++ [k]) (k + 1)
          have hpow2 : 2 ^ dd ≤ 2 ^ 15 := Nat.pow_le_pow_right (by omega) (by omega)
          go_wp2_with (first | (go_at_call 64; refine (l1Own_c (natInts P) _ _ _ _ _ (by simp [hP]) (by omega) ((Hy.out.ex hE).ex (by exact by repeat (first | exact Ex.refl _ | refine Ex.ext ?_ _ | refine Ex.alloc ?_ _ | refine Ex.drew ?_)))).mono ?_; rintro e w3 ⟨g3, c3, rfl, hx3, hr3⟩) |
            (at_builtin; refine wp_app rowInt (nW := _) (by simp [go_sem]) rfl _ _ rfl rfl (hr3.ex (Ex.refl _)) 1 1 [.int .i64 k] rfl rfl (one1 _) (by omega) ?c2 ?c3 ?_; (case c2 => (unfold maxLen; omega)); (case c3 => omega); intro g' cap'' wq hrow' hK hg') |
            (go_at_call 36; refine (IH.out dd (by omega) (P ++ [k]) (k + 1) m (nP + 1) g' 0 cap'' _ _ _ (by omega) (by simp) rfl (by omega) (by simp [hP]) (by omega) HPk.out (Hz.out.ex (Keeps.ex (hE.trans hx3) hK (by have := hr3.blk; have := hE.below.size; omega))) (by have := RowV.rowI (zs := natInts (P ++ [k])) (by rw [natInts_snoc, intVals_append]; exact hrow') (by simp [hP]); exact this.sl)).mono ?_; rintro e w5 ⟨rfl, hx5⟩))
          have hEq : Ex w wq := Keeps.ex (hE.trans hx3) hK (by have := hr3.blk; have := hE.below.size; omega)
          go_roundw
          case rel =>
            (try ((repeat apply Exists.intro); refine ⟨?_, rfl⟩))
            refine ⟨k + 1, S + cntS cs dd m (P ++ [k]) (k + 1), by omega, by omega, by go_num, by go_num, hEq.trans hx5, ?_⟩
            rw [Hf.out, hdd, Hs.out, hmay, show cs.length - (k + 1) = dd by omega]
            simp; omega
          case measure => simp [intOf]; omega
        · have hmay : mayT cs P k = false := by rw [Hmay.out]; simp [h0]
          go_wp2
          go_roundw
          case rel =>
            (try ((repeat apply Exists.intro); refine ⟨?_, rfl⟩))
            refine ⟨k + 1, S, by omega, by omega, by go_num, rfl, hE, ?_⟩
            rw [Hf.out, hdd, Hs.out, hmay, show cs.length - (k + 1) = dd by omega]
            simp
          case measure => simp [intOf]; omega
      · have : k = cs.length := by omega
        subst this
        go_wp2
        go_ret
        refine ⟨ret_int ?_, hE⟩
        have e := Hf.out
        rw [Nat.sub_self] at e
        rw [e]; simp [cntS]

theorem keeps_sl {w w' : World} {p : Option Addr} {cs : List C4} {B : Nat} (h : Sl w p cs) (k : Keeps B w w') (hb : 0 < cs.length → ∀ b o, p = some ⟨b, o, none⟩ → b ≠ B) : Sl w' p cs := fun i hi => by
  obtain ⟨b, o, e, hl, h1, h2, h3, h4⟩ := h i hi
  have hne := hb (by omega) b o e
  exact ⟨b, o, e, Nat.lt_of_lt_of_le hl k.size, k.cell hne h1, k.cell hne h2, k.cell hne h3, k.cell hne h4⟩
theorem keeps_sli {w w' : World} {p : Option Addr} {zs : List Int} {B : Nat} (h : SlI w p zs) (k : Keeps B w w') (hb : ∀ b o, p = some ⟨b, o, none⟩ → b ≠ B) : SlI w' p zs := fun i hi => by
  obtain ⟨b, o, e, hl, h1⟩ := h i hi
  exact ⟨b, o, e, Nat.lt_of_lt_of_le hl k.size, k.cell (hb b o e) h1⟩
theorem Keeps.refl (g : Nat) (w : World) : Keeps g w w := ⟨rfl, rfl, rfl, Nat.le_refl _, fun _ _ _ => rfl⟩

/-- Who is visited: from a state and places to the next state. -/
structure Visitor (σ : Type) (fn : FuncId) (lb : Array Value) (B : Nat) (I : σ → World → Prop) (f : List Nat → σ → σ) : Prop where
  ex : ∀ s w w', I s w → Ex w w' → I s w'
  call : ∀ (P : List Nat) (s : σ) (w : World) (q : Option Addr) (nP capq : Nat), P.length = nP → nP ≤ 1000 → SlI w q (natInts P) → (q = none ∨ ∃ b o, q = some ⟨b, o, none⟩ ∧ b ≠ B) → I s w →
    Calls Try.prog fn (#[.slice q nP capq] ++ lb) w fun e w' => e = .returned (.tuple #[]) ∧ Keeps B w w' ∧ I (f P s) w'
end Go.Proofs.Ytkmnnnhnajnefaa
