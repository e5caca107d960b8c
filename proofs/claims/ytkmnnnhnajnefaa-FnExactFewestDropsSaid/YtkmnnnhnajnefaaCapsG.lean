/- The walk of caps. -/
import Derived.Test.YtkmnnnhnajnefaaCount
namespace Go.Proofs.Ytkmnnnhnajnefaa
set_option linter.unusedSimpArgs false
set_option linter.unusedVariables false
set_option maxHeartbeats 1000000
set_option maxRecDepth 100000
open Go.RowKit

theorem slice_olds {w : World} {q : Option Addr} {zs : List Int} {B : Nat} (h : SlI w q zs) (hq : q = none ∨ ∃ b o, q = some ⟨b, o, none⟩ ∧ b ≠ B) : ∀ b, q = some b → ∀ j u, (intVals zs)[j]? = some u → w.cell? (b.add j) = some u := by
  intro b e
  rcases hq with h0 | ⟨b', o', h0, _⟩
  · rw [e] at h0; simp at h0
  · rw [e] at h0
    simp at h0
    subst h0
    rw [e] at h
    exact h.cells
theorem sli_none {w : World} {zs : List Int} {n : Nat} (h : SlI w none zs) (hn : zs.length = n) : n = 0 := by
  cases n with
  | zero => rfl
  | succ n =>
    obtain ⟨b, o, e, _⟩ := h 0 (by omega)
    simp at e
theorem box_one (w : World) (x : Int) (T : TypeId) : ∀ j u, [Value.int .i64 x][j]? = some u → (w.alloc (.cells #[.int .i64 x] T)).cell? ((⟨w.heap.size, 0, none⟩ : Addr).add j) = some u := by
  intro j u hj
  match j, hj with
  | 0, hj => simp at hj; subst hj; simp [Addr.add]
theorem own_succ {w : World} {B n T : Nat} {v : Value} {xs : List Value} (h : w.ownsRow B T 1 v (n + 1) xs) : ∃ g cap, v = .slice (some ⟨g, 0, none⟩) (n + 1) cap ∧ RowV T 1 B w g cap (n + 1) xs := by
  obtain ⟨p1, c1, rfl, hp1⟩ := own_form h
  rcases h.2 with ⟨h1, h2⟩ | ⟨g, cap2, cur, h1, h2, h3, h4⟩
  · simp at h1
  · simp at h1
    obtain ⟨rfl, rfl⟩ := h1
    exact ⟨g, c1, rfl, h⟩
theorem own_pos {w : World} {B n T : Nat} {v : Value} {xs : List Value} (h : w.ownsRow B T 1 v n xs) (hn : 0 < n) : ∃ g cap, v = .slice (some ⟨g, 0, none⟩) n cap ∧ RowV T 1 B w g cap n xs := by
  obtain ⟨m, rfl⟩ : ∃ m, n = m + 1 := ⟨n - 1, by omega⟩
  exact own_succ h

theorem caps_c {σ : Type} {lb : Array Value} {B : Nat} {I : σ → World → Prop} {f : List Nat → σ → σ} (V : Visitor σ 67 lb B I f)
    (cs : List C4) (p : Option Addr) (cap : Nat) (hn : cs.length ≤ 15) (hok : ∀ z ∈ cs, Ok z) (hnd : cs.Nodup) (hpB : 0 < cs.length → ∀ b o, p = some ⟨b, o, none⟩ → b ≠ B) :
    ∀ (d : Nat) (P : List Nat) (i nP capq : Nat) (q : Option Addr) (ii : Int) (s : σ) (w : World), i + d = cs.length → ii = i → P.length = nP → nP ≤ i → nP ≤ capq → Rising cs P i → B < w.heap.size → Sl w p cs → SlI w q (natInts P) → (q = none ∨ ∃ b o, q = some ⟨b, o, none⟩ ∧ b ≠ B) → (q = none → capq = 0) → I s w →
    Calls Try.prog 40 #[.slice p cs.length cap, .int .i64 ii, .slice q nP capq, .func (.func 67) #[] lb] w fun e w' => e = .returned (.tuple #[]) ∧ Keeps B w w' ∧ I (runV f (P :: vis cs d P i) s) w' := by
  intro d
  induction d using Nat.strongRecOn with
  | _ d ih =>
  intro P i nP capq q ii s w hid hii hP hPi hcq hR hB hz hy hq hq0 hI
  have Hz := Lib.hid hz
  have Hy := Lib.hid hy
  have Hok := Lib.hid hok
  have Hnd := Lib.hid hnd
  have HR := Lib.hid hR
  have HV := Lib.hid V
  have HI := Lib.hid hI
  have Hq := Lib.hid hq
  have Hq0 := Lib.hid hq0
  have IH := Lib.hid ih
  have HpB := Lib.hid hpB
  clear hz hy hok hnd ih V hI hq hq0 hpB hR
  subst hii
  go_enter Try.func40, Try.ntmps40
  go_wp2_with (go_at_call 67; refine (HV.out.call P s _ q nP capq hP (by omega) Hy.out Hq.out HI.out).mono ?_; rintro e w1 ⟨rfl, hK1, hI1⟩)
  have HI1 := Lib.hid hI1
  clear hI1
  go_loopw [8] (fun v wr => ∃ (k : Nat) (s' : σ), i ≤ k ∧ k ≤ cs.length ∧ v = .int .i64 k ∧ Keeps B w wr ∧ I s' wr ∧ runV f (P :: vis cs d P i) s = runV f (vis cs (cs.length - k) P k) s') (fun v _ => cs.length - (intOf v).toNat)
  case atStart => exact ⟨i, f P s, Nat.le_refl _, by omega, rfl, hK1, HI1.out, by rw [show cs.length - i = d by omega]; rfl⟩
  case round =>
    obtain ⟨k, s', hik, hk, rfl, hK, hI, hf⟩ := hrel
    have Hf := Lib.hid hf
    have HI' := Lib.hid hI
    clear hf hI HI1 hK1
    by_cases hlt : k < cs.length
    · obtain ⟨dd, hdd⟩ : ∃ dd, cs.length - k = dd + 1 := ⟨cs.length - k - 1, by omega⟩
      have hRk : Rising cs P k := ⟨fun x hx => by have := HR.out.lt x hx; omega, HR.out.nodup⟩
      have Hmay := Lib.hid (may_free Hnd.out hRk hlt)
      have HRk := Lib.hid hRk.snoc
      have Hplt := Lib.hid (fun x hx => Nat.lt_trans (hRk.lt x hx) hlt)
      clear hRk
      have hz := keeps_sl Hz.out hK HpB.out
      have hy := keeps_sli Hy.out hK (fun b o e => by rcases Hq.out with h | ⟨b', o', h, hne⟩ <;> rw [e] at h <;> simp at h; obtain ⟨rfl, rfl⟩ := h; exact hne)
      have Hz' := Lib.hid hz
      have Hy' := Lib.hid hy
      clear hz hy
      obtain ⟨b, o, rfl, hb, e1, e2, e3, e4⟩ := Hz'.out k hlt
      have hokz := Hok.out _ (List.getElem_mem hlt)
      generalize cs[k] = z at *
      have Htl : (pick cs P).length = nP := by rw [pick_length, hP]
      go_wp2
      obtain ⟨wo, rfl⟩ : ∃ wo : World, wo = wr := ⟨_, rfl⟩
      go_loopw [9, 26] (fun u v wr => ∃ (j : Nat) (fr : Bool), j ≤ nP ∧ v = .int .i64 j ∧ u = .bool fr ∧ Ex wo wr ∧ freeT z (pick cs P) = (fr && freeT z ((pick cs P).drop j))) (fun _ v _ => nP - (intOf v).toNat)
      case atStart => exact ⟨0, true, Nat.zero_le _, rfl, rfl, by repeat (first | exact Ex.refl _ | refine Ex.ext ?_ _ | refine Ex.alloc ?_ _ | refine Ex.drew ?_), by simp⟩
      case round =>
        obtain ⟨j, fr, hj, rfl, rfl, hE, hg⟩ := hrel
        have Hg := Lib.hid hg
        clear hg
        by_cases hjt : j < nP
        · have hzl : (natInts P).length = nP := by simp [hP]
          obtain ⟨b2, o2, rfl, hb2, c1⟩ := (Hy'.out.ex hE) j (by omega)
          have hpj : j < P.length := by omega
          have hPj := Hplt.out _ (List.getElem_mem hpj)
          have hel : (natInts P)[j]'(by omega) = ((P[j] : Nat) : Int) := by simp [natInts]
          rw [hel] at c1
          clear hel
          have Hd := Lib.hid (show (pick cs P).drop j = cs[P[j]] :: (pick cs P).drop (j + 1) by
            rw [List.drop_eq_getElem_cons (by omega)]
            congr 1
            simp [pick, List.getElem?_eq_getElem hPj])
          obtain ⟨b', o', e', hb', d1, d2, d3, d4⟩ := Hz'.out _ hPj
          simp at e'
          obtain ⟨rfl, rfl⟩ := e'
          have hoka := Hok.out _ (List.getElem_mem hPj)
          generalize cs[P[j]] = a at *
          generalize P[j] = pj at *
          by_cases hj1 : j + 1 < nP
          · go_wp2
            obtain ⟨wi, rfl⟩ : ∃ wi : World, wi = wr := ⟨_, rfl⟩
            go_loopw [9, 36] (fun u v wr => ∃ (l : Nat) (ff : Bool), l ≤ nP - (j + 1) ∧ v = .int .i64 l ∧ u = .bool ff ∧ Ex wi wr ∧ freeT z (pick cs P) = (ff && (rowFree a z ((pick cs P).drop (j + 1 + l)) && freeT z ((pick cs P).drop (j + 1))))) (fun _ v _ => nP - (j + 1) - (intOf v).toNat)
            case atStart => exact ⟨0, fr, Nat.zero_le _, rfl, rfl, by repeat (first | exact Ex.refl _ | refine Ex.ext ?_ _ | refine Ex.alloc ?_ _ | refine Ex.drew ?_), by rw [Hg.out, Hd.out]; rfl⟩
            case round =>
              obtain ⟨l, ff, hl, rfl, rfl, hE2, hg⟩ := hrel
              have Hg2 := Lib.hid hg
              clear hg
              by_cases hlt2 : l < nP - (j + 1)
              · obtain ⟨b3, o3, e', hb3, c2⟩ := (Hy'.out.ex (hE.trans hE2)) (j + 1 + l) (by omega)
                simp at e'
                obtain ⟨rfl, rfl⟩ := e'
                have hpl : j + 1 + l < P.length := by omega
                have hPl := Hplt.out _ (List.getElem_mem hpl)
                have hel : (natInts P)[j + 1 + l]'(by omega) = ((P[j + 1 + l] : Nat) : Int) := by simp [natInts]
                rw [hel, ← Nat.add_assoc] at c2
                clear hel
                have Hd2 := Lib.hid (show (pick cs P).drop (j + 1 + l) = cs[P[j + 1 + l]] :: (pick cs P).drop (j + 1 + (l + 1)) by
                  rw [List.drop_eq_getElem_cons (by omega)]
                  congr 1
                  simp [pick, List.getElem?_eq_getElem hPl])
                obtain ⟨b', o', e', hb', g1, g2, g3, g4⟩ := (Hz'.out.ex (hE.trans hE2)) _ hPl
                simp at e'
                obtain ⟨rfl, rfl⟩ := e'
                have hokb := Hok.out _ (List.getElem_mem hPl)
                generalize cs[P[j + 1 + l]] = y at *
                generalize P[j + 1 + l] = pl at *
                have hEr := hE.trans hE2
                have d1 := (hEr.below.cell hb).trans d1
                have d2 := (hEr.below.cell hb).trans d2
                have d3 := (hEr.below.cell hb).trans d3
                have d4 := (hEr.below.cell hb).trans d4
                have f1 := (hEr.below.cell hb).trans e1
                have f2 := (hEr.below.cell hb).trans e2
                have f3 := (hEr.below.cell hb).trans e3
                have f4 := (hEr.below.cell hb).trans e4
                have hbr : b < wr.heap.size := by have := hEr.below.size; omega
                cases ff
                · go_wp2
                  go_region
                  all_goals go_wp2
                  go_roundw
                  case rel => exact ⟨l + 1, false, by omega, by go_num, rfl, hE2.trans (by exact by repeat (first | exact Ex.refl _ | refine Ex.ext ?_ _ | refine Ex.alloc ?_ _ | refine Ex.drew ?_)), by rw [Hg2.out]; rfl⟩
                  case measure => simp [intOf]; omega
                · cases hc : ceq (third a y) z
                  all_goals
                    have hk0 : Ex wr wr := Ex.refl wr
                    go_wp2
                    go_region_held3 (fun w' => w'.cell? ⟨b, o + pj * 4, none⟩ = some (.int .i64 a.a) ∧ w'.cell? ⟨b, o + pj * 4 + 1, none⟩ = some (.int .i64 a.b) ∧ w'.cell? ⟨b, o + pj * 4 + 2, none⟩ = some (.int .i64 a.c) ∧ w'.cell? ⟨b, o + pj * 4 + 3, none⟩ = some (.int .i64 a.d) ∧
                        w'.cell? ⟨b, o + pl * 4, none⟩ = some (.int .i64 y.a) ∧ w'.cell? ⟨b, o + pl * 4 + 1, none⟩ = some (.int .i64 y.b) ∧ w'.cell? ⟨b, o + pl * 4 + 2, none⟩ = some (.int .i64 y.c) ∧ w'.cell? ⟨b, o + pl * 4 + 3, none⟩ = some (.int .i64 y.d) ∧
                        w'.cell? ⟨b, o + k * 4, none⟩ = some (.int .i64 z.a) ∧ w'.cell? ⟨b, o + k * 4 + 1, none⟩ = some (.int .i64 z.b) ∧ w'.cell? ⟨b, o + k * 4 + 2, none⟩ = some (.int .i64 z.c) ∧ w'.cell? ⟨b, o + k * 4 + 3, none⟩ = some (.int .i64 z.d))
                      (first | go_keep | (rw [hk0.below.cell hbr, hk0.below.cell hbr, hk0.below.cell hbr, hk0.below.cell hbr, hk0.below.cell hbr, hk0.below.cell hbr, hk0.below.cell hbr, hk0.below.cell hbr, hk0.below.cell hbr, hk0.below.cell hbr, hk0.below.cell hbr, hk0.below.cell hbr]; exact ⟨d1, d2, d3, d4, g1, g2, g3, g4, f1, f2, f3, f4⟩))
                      (first | (go_at_call 66; refine (third_c _ _ (by assumption) (by assumption) _).mono ?_; rintro e w' ⟨rfl, hx⟩; have hk0 := Ex.trans hk0 hx; clear hx))
                  · go_wp2
                    go_roundw
                    case rel => exact ⟨l + 1, true, by omega, by go_num, rfl, hE2.trans (by repeat (first | exact hk0 | refine Ex.drew ?_)), by rw [Hg2.out, Hd2.out, rowFree, hc]; rfl⟩
                    case measure => simp [intOf]; omega
                  · go_wp2
                    go_roundw
                    case rel => exact ⟨l + 1, false, by omega, by go_num, rfl, hE2.trans (by repeat (first | exact hk0 | refine Ex.drew ?_)), by rw [Hg2.out, Hd2.out, rowFree, hc]; rfl⟩
                    case measure => simp [intOf]; omega
              · have : l = nP - (j + 1) := by omega
                subst this
                go_wp2
                go_roundw
                case rel => exact ⟨j + 1, ff, by omega, by go_num, rfl, hE.trans hE2, by rw [Hg2.out, show j + 1 + (nP - (j + 1)) = (pick cs P).length by omega, List.drop_length]; rfl⟩
                case measure => simp [intOf]; omega
          · have Hnil := Lib.hid (show freeT z (pick cs P) = (fr && freeT z ((pick cs P).drop (j + 1))) by rw [Hg.out, Hd.out, show (pick cs P).drop (j + 1) = [] from List.drop_eq_nil_of_le (by omega)]; simp [freeT, rowFree])
            by_cases hcj : capq = j + 1
            · subst hcj
              go_wp2
              refine wp_loop_rounds 1 ?_
              rw [rounds_succ]
              go_wp2
              go_roundw
              case rel => first | exact ⟨j + 1, fr, by omega, by go_num, rfl, hE, Hnil.out⟩ | ((try ((repeat apply Exists.intro); refine ⟨?_, rfl⟩)); exact ⟨j + 1, fr, by omega, by go_num, rfl, hE, Hnil.out⟩)
              case measure => simp [intOf]; omega
            · go_wp2
              refine wp_loop_rounds 1 ?_
              rw [rounds_succ]
              go_wp2
              go_roundw
              case rel => first | exact ⟨j + 1, fr, by omega, by go_num, rfl, hE, Hnil.out⟩ | ((try ((repeat apply Exists.intro); refine ⟨?_, rfl⟩)); exact ⟨j + 1, fr, by omega, by go_num, rfl, hE, Hnil.out⟩)
              case measure => simp [intOf]; omega
        · have : j = nP := by omega
          subst this
          have Hfr := Lib.hid (show mayT cs P k = fr by
            have e := Hg.out
            rw [← Htl, List.drop_length] at e
            rw [← Hmay.out, e]; simp [freeT])
          cases fr
          · go_wp2
            go_roundw
            case rel => exact ⟨k + 1, s', by omega, by omega, by go_num, hK.trans (hE.keeps B), HV.out.ex _ _ _ HI'.out hE, by rw [Hf.out, hdd, vis, Hfr.out, show cs.length - (k + 1) = dd by omega]; rfl⟩
            case measure => simp [intOf]; omega
          · obtain ⟨iz, z0, hi, hzz, hsize, hby, hzs⟩ := rowInt.info
            have hEo := hE.trans (((Ex.refl wr).alloc (.cells #[.int .i64 (k : Int)] 3)))
            have Hcut := Lib.hid (show runV f (vis cs (cs.length - k) P k) s' = runV f (vis cs dd P (k + 1)) (runV f ((P ++ [k]) :: vis cs dd (P ++ [k]) (k + 1)) s') by rw [hdd, vis, Hfr.out, if_pos rfl, runV_append])
            have hEw : Ex wo (wr.alloc (.cells #[.int .i64 (k : Int)] 3)) := hE.alloc _
            have hyw := Hy'.out.ex hEw
            have Hold := Lib.hid (slice_olds hyw Hq.out)
            clear hyw
            have Hq1 := Lib.hid (fun e : q = none => (⟨sli_none (e ▸ Hy'.out) (by simp [hP]), sli_none (e ▸ Hy'.out) (by simp [hP])⟩ : j = 0 ∧ j = 0))
            go_wp2_with (first | (at_builtin; refine wpList_append_grows _ rfl _ _ 29 rfl 3 iz z0 1 8 rowInt.under hi hzz hsize hby hzs rowInt.pos q j j (intVals (natInts P)) rfl Hq1.out (by simp [hP]) Hold.out ⟨wr.heap.size, 0, none⟩ 1 1 [.int .i64 (k : Int)] rfl rfl (box_one _ _ _) (by intro u hu; simp at hu; subst hu; rfl) (by omega) (by unfold maxLen; omega) (by omega) ?_; intro v' w4 hown hgr; obtain ⟨g4, c4, rfl, hr4⟩ := own_succ hown; have hE4 : Ex wo w4 := hE.trans (Ex.of_below (((Ex.refl wr).alloc (.cells #[.int .i64 (k : Int)] 3)).below.grown hgr (by simp) (fun k hk => by simp at hk))); have hlen4 := hr4.lens.1; have hblk4 := hr4.blk.1) |
              (go_at_call 40; refine (IH.out dd (by omega) (P ++ [k]) (k + 1) (j + 1) c4 (some ⟨g4, 0, none⟩) _ s' _ (by omega) (by simp) (by simp [hP]) (by omega) hlen4 HRk.out (by have := hK.size; have := hE4.below.size; omega) (Hz'.out.ex hE4) (by have := RowV.rowI (zs := natInts (P ++ [k])) (by rw [natInts_snoc, intVals_append]; exact hr4) (by simp [hP]); exact this.sl) (Or.inr ⟨g4, 0, rfl, by have := hK.size; have := hE.below.size; simp at hblk4; omega⟩) (fun e => by simp at e) (HV.out.ex _ _ _ HI'.out hE4)).mono ?_; rintro e w5 ⟨rfl, hK5, hI5⟩))
            go_roundw
            case rel => exact ⟨k + 1, _, by omega, by omega, by go_num, hK.trans ((hE4.keeps B).trans hK5), hI5, by rw [Hf.out, Hcut.out, show cs.length - (k + 1) = dd by omega]⟩
            case measure => simp [intOf]; omega
    · have : k = cs.length := by omega
      subst this
      go_wp2
      go_end0
      refine ⟨rfl, hK, ?_⟩
      rw [Hf.out, Nat.sub_self]
      exact HI'.out
end Go.Proofs.Ytkmnnnhnajnefaa
