/- The laws' own marks on slices of strings: laid, and read again. -/
import Derived.Test.YtebgkdgcjpjigaaDoorMarkS
import Derived.Test.YtebgkdgcjpjigaaDoorVerP
import Derived.Deep.RegionHeld3
namespace Go.Proofs.YtebgkdgcjpjigaaDoor
set_option linter.unusedSimpArgs false
set_option linter.unusedVariables false
set_option maxHeartbeats 1000000
set_option maxRecDepth 100000
open Go.RowKit

theorem row_free' {w : World} {b j : Nat} {A : Array Value} {T : TypeId} (h : w.heap[b]? = some (.cells A T (0, 0))) : w.frozen? ⟨b, j, none⟩ = false := by
  simp [World.frozen?, h]
theorem row_cell' {w : World} {b j : Nat} {A : Array Value} {T : TypeId} {u : Value} (h : w.heap[b]? = some (.cells A T (0, 0))) (hj : A[j]? = some u) : w.cell? ⟨b, j, none⟩ = some u := by
  simp only [World.cell?, h]; exact hj
theorem keeps_setJ (w : World) (B j : Nat) (v : Value) : Keeps B w (w.setCell ⟨B, j, none⟩ v) :=
  ⟨rfl, rfl, rfl, by simp, fun k hk hg => heap_setCell_other w _ k v hg⟩
theorem markS_c (n K g cap lo : Nat) (xs : List Value) (w : World) (hn : n ≤ 10000000) (h1 : 1 ≤ K) (h2 : K ≤ 10000000) (h : RowV 9 1 lo w g cap n xs) :
    Calls Tryd.prog 16 #[.slice (some ⟨g, 0, none⟩) n cap, .int .i64 K] w fun e w' => e = .returned (.int .i64 ((K : Int) + n)) ∧ Keeps g w w' ∧ SlS w' (some ⟨g, 0, none⟩) (mkL K n) := by
  obtain ⟨cur, hh, hs, hc⟩ : ∃ cur, w.heap[g]? = some (.cells cur 9 (0, 0)) ∧ cur.size = cap ∧ n ≤ cap := by
    rcases h.2 with ⟨h1, _⟩ | ⟨g', cap', cur, h1, h2, h3, h4, h5, h6, h7⟩
    · simp at h1
    · simp at h1
      obtain ⟨rfl, rfl⟩ := h1
      exact ⟨cur, h3, by omega, h4⟩
  have H0 := Lib.hid hh
  have Hs := Lib.hid hs
  clear h hh hs
  go_enter Tryd.func16, Tryd.ntmps16
  go_wp2
  go_loopw [1, 5] (fun u v wr => ∃ (k : Nat) (A : Array Value), k ≤ n ∧ v = .int .i64 k ∧ u = .int .i64 ((K : Int) + k) ∧ Keeps g w wr ∧ wr.heap[g]? = some (.cells A 9 (0, 0)) ∧ A.size = cap ∧ ∀ j, j < k → A[j]? = some (.string (mkS (K + j)))) (fun _ v _ => n - (intOf v).toNat)
  case atStart => exact ⟨0, cur, Nat.zero_le _, rfl, by simp, ⟨rfl, rfl, rfl, Nat.le_refl _, fun _ _ _ => rfl⟩, H0.out, Hs.out, fun j hj => by omega⟩
  case round =>
    obtain ⟨k, A, hk, rfl, rfl, hK, hA, hAs, hf⟩ := hrel
    have Hf := Lib.hid hf
    have HA := Lib.hid hA
    have HAs := Lib.hid hAs
    have HK := Lib.hid hK
    have hlt0 := lt_of_block hA
    clear hf hA hK
    by_cases hlt : k < n
    · obtain ⟨u1, e1⟩ : ∃ u, A[k]? = some u := ⟨_, Array.getElem?_eq_getElem (by omega)⟩
      obtain ⟨z, hz⟩ : ∃ z, mkS (K + k) = z := ⟨_, rfl⟩
      have HM := Lib.hid (show ∀ w, Calls Tryd.prog 35 #[.int .i64 ((K : Int) + (k : Int))] w fun e w' => e = .returned (.string z) ∧ Ex w w' from fun w => by rw [show (K : Int) + (k : Int) = ((K + k : Nat) : Int) from (Int.natCast_add K k).symm]; exact markText_q hz (by omega) (by omega) w)
      have Hz := Lib.hid hz
      have He1 := Lib.hid e1
      clear hz e1 hAs
      go_wp2_with (go_at_call 35; refine (HM.out _).mono ?_; rintro e w2 ⟨rfl, hx2⟩; have hA2 := (hx2.below.block g hlt0).trans HA.out; have hc2 := row_cell' hA2 He1.out; have hf2 := row_free' hA2 (j := k); have HA2 := Lib.hid hA2; clear hA2)
      go_roundw
      case rel =>
        (try ((repeat apply Exists.intro); refine ⟨?_, rfl⟩))
        refine ⟨k + 1, _, by omega, by go_num, by go_num, (HK.out.trans (hx2.keeps g)).trans (keeps_setJ _ _ _ _), heap_setCell_same _ _ _ _ _ _ HA2.out, by simp only [Array.size_setIfInBounds]; exact HAs.out, fun j hj => ?_⟩
        rw [Array.getElem?_setIfInBounds]
        by_cases hjk : k = j
        · subst hjk
          rw [if_pos rfl, if_pos (by rw [HAs.out]; omega), Hz.out]
        · rw [if_neg hjk]; exact Hf.out j (by omega)
      case measure => simp [intOf]; omega
    · have : k = n := by omega
      subst this
      go_wp2
      go_ret
      refine ⟨rfl, HK.out, fun i hi => ⟨g, 0, rfl, hlt0, ?_⟩⟩
      have hi' : i < k := by simpa using hi
      rw [Nat.zero_add]
      have e := row_cell' HA.out (Hf.out i hi')
      have e2 := mkL_get k K i hi'
      rw [List.getElem?_eq_getElem hi] at e2
      rw [e, Option.some.inj e2]
theorem heldS_c (n K cap : Nat) (p : Option Addr) (w : World) (hn : n ≤ 10000000) (h1 : 1 ≤ K) (h2 : K ≤ 10000000) (h : SlS w p (mkL K n)) :
    Calls Tryd.prog 17 #[.slice p n cap, .int .i64 K] w fun e w' => e = .returned (.int .i64 ((K : Int) + n)) ∧ Ex w w' := by
  have H0 := Lib.hid h
  clear h
  go_enter Tryd.func17, Tryd.ntmps17
  go_wp2
  go_loopw [1, 5] (fun u v wr => ∃ (k : Nat), k ≤ n ∧ v = .int .i64 k ∧ u = .int .i64 ((K : Int) + k) ∧ Ex w wr) (fun _ v _ => n - (intOf v).toNat)
  case atStart => exact ⟨0, Nat.zero_le _, rfl, by simp, Ex.refl _⟩
  case round =>
    obtain ⟨k, hk, rfl, rfl, hE⟩ := hrel
    by_cases hlt : k < n
    · have hkl : k < (mkL K n).length := by simp; exact hlt
      obtain ⟨b, o, rfl, hb, e1⟩ := (H0.out.ex hE) k hkl
      have e2 := mkL_get n K k hlt
      rw [List.getElem?_eq_getElem hkl] at e2
      rw [Option.some.inj e2] at e1
      obtain ⟨z, hz⟩ : ∃ z, mkS (K + k) = z := ⟨_, rfl⟩
      rw [hz] at e1
      have HM := Lib.hid (show ∀ w, Calls Tryd.prog 35 #[.int .i64 ((K : Int) + (k : Int))] w fun e w' => e = .returned (.string z) ∧ Ex w w' from fun w => by rw [show (K : Int) + (k : Int) = ((K + k : Nat) : Int) from (Int.natCast_add K k).symm]; exact markText_q hz (by omega) (by omega) w)
      have hsl : (z.toList == z.toList) = true := beq_self_eq_true _
      have hk0 : Ex wr wr := Ex.refl wr
      clear hz e2
      go_wp2
      go_region_held3 (fun w' => w'.cell? ⟨b, o + k, none⟩ = some (.string z))
        (first | go_keep | (rw [hk0.below.cell hb]; exact e1))
        (first | (go_at_call 35; refine (HM.out _).mono ?_; rintro e w2 ⟨rfl, hx2⟩; have hk0 : Ex wr w2 := Ex.trans (by exact by repeat (first | exact Ex.refl _ | refine Ex.ext ?_ _ | refine Ex.alloc ?_ _ | refine Ex.drew ?_)) hx2))
      go_wp2
      go_roundw
      case rel =>
        (try ((repeat apply Exists.intro); refine ⟨?_, rfl⟩))
        exact ⟨k + 1, by omega, by go_num, by go_num, hE.trans hk0⟩
      case measure => simp [intOf]; omega
    · have : k = n := by omega
      subst this
      go_wp2
      go_ret
      exact ⟨rfl, hE⟩
end Go.Proofs.YtebgkdgcjpjigaaDoor
