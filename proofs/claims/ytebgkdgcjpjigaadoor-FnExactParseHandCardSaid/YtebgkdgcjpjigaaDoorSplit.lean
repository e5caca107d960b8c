/- SplitString: the walks. -/
import Derived.Test.YtebgkdgcjpjigaaDoorMarkW
import Derived.Test.YtebgkdgcjpjigaaDoorSplP
import Derived.Test.YtebgkdgcjpjigaaDoorVer
namespace Go.Proofs.YtebgkdgcjpjigaaDoor
set_option linter.unusedSimpArgs false
set_option linter.unusedVariables false
set_option maxHeartbeats 1000000
set_option maxRecDepth 100000
open Go.RowKit

def ssB (s t : ByteArray) : Bool := decide (t.size = 1) && decide (s.size ≤ 4000)
theorem specSplit_no (s t : ByteArray) (h : ssB s t = false) (w : World) : Calls Tryd.prog 13 #[.string s, .string t] w fun e w' => ∃ g, e = .returned (.tuple #[.slice (some ⟨g, 0, none⟩) 0 0, .bool false]) ∧ Ex w w' := by
  by_cases h1 : t.size = 1
  · have h2 : ¬ s.size ≤ 4000 := fun e => by simp [ssB, h1, e] at h
    clear h
    go_enter Tryd.func13, Tryd.ntmps13
    go_wp2
    go_ret2
    exact ⟨_, rfl, by repeat (first | exact Ex.refl _ | refine Ex.ext ?_ _ | refine Ex.alloc ?_ _ | refine Ex.drew ?_)⟩
  · have h1' : ((t.size : Int) == 1) = false := beq_eq_false_iff_ne.2 (by omega)
    clear h
    go_enter Tryd.func13, Tryd.ntmps13
    go_wp2
    go_ret2
    exact ⟨_, rfl, by repeat (first | exact Ex.refl _ | refine Ex.ext ?_ _ | refine Ex.alloc ?_ _ | refine Ex.drew ?_)⟩
theorem implSplit_no (s t : ByteArray) (h : ssB s t = false) (w : World) : Calls Tryd.prog 14 #[.string s, .string t] w fun e w' => e = .returned (.tuple #[.slice none 0 0, .bool false]) ∧ Ex w w' := by
  by_cases h2 : s.size ≤ 4000
  · have h1 : ¬ t.size = 1 := fun e => by simp [ssB, h2, e] at h
    have h1' : ((t.size : Int) == 1) = false := beq_eq_false_iff_ne.2 (by omega)
    have h1'' : ((t.size : Int) != 1) = true := by simp only [bne, h1']; rfl
    clear h
    go_enter Tryd.func14, Tryd.ntmps14
    go_wp2
    go_ret2
    exact ⟨rfl, by repeat (first | exact Ex.refl _ | refine Ex.ext ?_ _ | refine Ex.alloc ?_ _ | refine Ex.drew ?_)⟩
  · clear h
    go_enter Tryd.func14, Tryd.ntmps14
    go_wp2
    go_ret2
    exact ⟨rfl, by repeat (first | exact Ex.refl _ | refine Ex.ext ?_ _ | refine Ex.alloc ?_ _ | refine Ex.drew ?_)⟩
theorem specSplit_yes (s : ByteArray) (c : UInt8) (h : s.size ≤ 4000) {P : List ByteArray} (hP : spI s c s.size 0 0 = P) (w : World) : Calls Tryd.prog 13 #[.string s, .string ⟨#[c]⟩] w fun e w' => ∃ g cap, e = .returned (.tuple #[.slice (some ⟨g, 0, none⟩) P.length cap, .bool true]) ∧ Ex w w' ∧ RowV 9 1 w.heap.size w' g cap P.length (strVals P) := by
  have HS := Lib.hid (show ∀ w, Calls Tryd.prog 33 #[.string s, .int .u8 (c.toNat : Int)] w fun e w' => ∃ g cap', e = .returned (.slice (some ⟨g, 0, none⟩) P.length cap') ∧ Ex w w' ∧ RowV 9 1 w.heap.size w' g cap' P.length (strVals P) from fun w => by rw [← hP]; exact l1Split_c s c (by omega) w)
  clear hP
  have hsz : (⟨#[c]⟩ : ByteArray).size = 1 := rfl
  have hcb : c.toNat < 256 := c.toNat_lt
  go_enter Tryd.func13, Tryd.ntmps13
  go_wp2_with (go_at_call 33; refine (HS.out _).mono ?_; rintro e w1 ⟨g, cap, rfl, hx1, hr1⟩)
  go_ret2
  exact ⟨g, cap, rfl, hx1, hr1⟩
theorem implSplit_yes (s : ByteArray) (c : UInt8) (h : s.size ≤ 4000) {P : List ByteArray} (hP : spI s c s.size 0 0 = P) {w : World} (hM : MaxP w) : Calls Tryd.prog 14 #[.string s, .string ⟨#[c]⟩] w fun e w' => ∃ g cap, e = .returned (.tuple #[.slice (some ⟨g, 0, none⟩) P.length cap, .bool true]) ∧ Ex w w' ∧ RowV 9 1 w.heap.size w' g cap P.length (strVals P) := by
  obtain ⟨m, hm⟩ := hM
  have hlen := split_len s c
  have hsame := split_same s c
  rw [hP] at hlen hsame
  have HS := Lib.hid (show ∀ w : World, w.cell? ⟨2, 0, none⟩ = some (.int .i64 m) → Calls Tryd.prog 34 #[.string s, .string ⟨#[c]⟩] w fun e w' => e = .returned (.slice (some ⟨w.heap.size, 0, none⟩) P.length P.length) ∧ w' = w.alloc (.cells (strVals P).toArray 9) from fun w hm => by
    have q := Tryd.strings_Split s ⟨#[c]⟩ m w (by omega) hm (Nat.le_refl 1)
    rw [hsame, hlen] at q
    exact q)
  have hPl : P.length ≤ 4001 := by have := (spI_len s c s.size 0 0).1; rw [hP] at this; omega
  clear hP hlen hsame
  have hsz : (⟨#[c]⟩ : ByteArray).size = 1 := rfl
  go_enter Tryd.func14, Tryd.ntmps14
  go_wp2_with (go_at_call 34; refine (HS.out _ hm).mono ?_; rintro e w1 ⟨rfl, rfl⟩)
  go_ret2
  have hlv : (strVals P).length = P.length := by simp [strVals]
  exact ⟨w.heap.size, P.length, rfl, by repeat (first | exact Ex.refl _ | refine Ex.ext ?_ _ | refine Ex.alloc ?_ _ | refine Ex.drew ?_), ⟨by omega, Or.inr ⟨w.heap.size, P.length, _, rfl, Nat.le_refl _, heap_alloc_new w _, Nat.le_refl _, by unfold maxLen; omega, by simp [hlv], by simp [← hlv]⟩⟩⟩
theorem mark0_c (p : Option Addr) (K : Int) (w : World) : Calls Tryd.prog 16 #[.slice p 0 0, .int .i64 K] w fun e w' => e = .returned (.int .i64 K) ∧ Ex w w' := by
  go_enter Tryd.func16, Tryd.ntmps16
  go_wp2
  refine wp_loop_rounds 1 ?_
  rw [rounds_succ]
  go_wp2
  go_ret
  exact ⟨rfl, by repeat (first | exact Ex.refl _ | refine Ex.ext ?_ _ | refine Ex.alloc ?_ _ | refine Ex.drew ?_)⟩
theorem held0_c (p : Option Addr) (K : Int) (w : World) : Calls Tryd.prog 17 #[.slice p 0 0, .int .i64 K] w fun e w' => e = .returned (.int .i64 K) ∧ Ex w w' := by
  go_enter Tryd.func17, Tryd.ntmps17
  go_wp2
  refine wp_loop_rounds 1 ?_
  rw [rounds_succ]
  go_wp2
  go_ret
  exact ⟨rfl, by repeat (first | exact Ex.refl _ | refine Ex.ext ?_ _ | refine Ex.alloc ?_ _ | refine Ex.drew ?_)⟩
theorem eq0_c (p q : Option Addr) (w : World) : Calls Tryd.prog 15 #[.slice p 0 0, .slice q 0 0] w fun e w' => e = .returned (.bool true) ∧ Ex w w' := by
  have h := eqStrS_c [] [] p q 0 0 w (by simp) (by simp) (fun i hi => by simp at hi) (fun i hi => by simp at hi)
  exact h
theorem sls_keeps {w w' : World} {p : Option Addr} {xs : List ByteArray} {B : Nat} (h : SlS w p xs) (k : Keeps B w w') (hb : ∀ b o, p = some ⟨b, o, none⟩ → b ≠ B) : SlS w' p xs := fun i hi => by
  obtain ⟨b, o, e, hl, h1⟩ := h i hi
  exact ⟨b, o, e, Nat.lt_of_lt_of_le hl k.size, by simp only [World.cell?] at h1 ⊢; rw [k.block b hl (hb b o e)]; exact h1⟩
theorem eqSame_c {xs : List ByteArray} {n : Nat} (hn : xs.length = n) (h2 : n ≤ 1000000) {p q : Option Addr} {cap cap2 : Nat} {w : World} (hz : SlS w p xs) (hy : SlS w q xs) :
    Calls Tryd.prog 15 #[.slice p n cap, .slice q n cap2] w fun e w' => e = .returned (.bool true) ∧ Ex w w' := by
  have h := eqStrS_c xs xs p q cap cap2 w (by omega) (by omega) hz hy
  rw [hn] at h
  simpa using h
theorem MaxP.keeps {w w' : World} {g : Nat} (h : MaxP w) (k : Keeps g w w') (hg : 2 ≠ g) : MaxP w' := by
  obtain ⟨m, hm⟩ := h
  have hl := World.block_lt_of_cell? _ _ hm
  exact ⟨m, by simp only [World.cell?] at hm ⊢; rw [k.block 2 hl hg]; exact hm⟩
theorem MaxP.lt {w : World} (h : MaxP w) : 2 < w.heap.size := by
  obtain ⟨m, hm⟩ := h
  exact World.block_lt_of_cell? _ _ hm
theorem mark1_c (n g cap lo : Nat) (xs : List Value) (w : World) (hn : n ≤ 10000000) (h : RowV 9 1 lo w g cap n xs) :
    Calls Tryd.prog 16 #[.slice (some ⟨g, 0, none⟩) n cap, .int .i64 1] w fun e w' => e = .returned (.int .i64 (1 + n)) ∧ Keeps g w w' ∧ SlS w' (some ⟨g, 0, none⟩) (mkL 1 n) :=
  markS_c n 1 g cap lo xs w hn (by omega) (by omega) h
theorem held1_c (n cap : Nat) (p : Option Addr) (w : World) (hn : n ≤ 10000000) (h : SlS w p (mkL 1 n)) :
    Calls Tryd.prog 17 #[.slice p n cap, .int .i64 1] w fun e w' => e = .returned (.int .i64 (1 + n)) ∧ Ex w w' :=
  heldS_c n 1 cap p w hn (by omega) (by omega) h
theorem fnExactSplitString_walk (s : ByteArray) (hl : s.size ≤ maxLen) (t : ByteArray) (hlt : t.size ≤ maxLen) (w : World) (hM : MaxP w) : Calls Tryd.prog 5 #[.string s, .string t] w fun e w' => e = .returned (.bool true) ∧ Below w.heap.size w w' := by
  unfold maxLen at hl hlt
  have HM := Lib.hid hM
  clear hM
  by_cases hs : s.size ≤ 1048576
  · by_cases ht : t.size ≤ 1048576
    · cases hB : ssB s t
      · have HS := Lib.hid (specSplit_no s t hB)
        have HI := Lib.hid (implSplit_no s t hB)
        clear hB
        go_enter Tryd.func5, Tryd.ntmps5
        go_wp2_with (first | (go_at_call 13; refine (HS.out _).mono ?_; rintro e w1 ⟨g, rfl, hx1⟩; have hE := hx1) |
          (go_at_call 14; refine (HI.out _).mono ?_; rintro e w2 ⟨rfl, hx2⟩; have hE := hE.trans hx2) |
          (go_at_call 15; refine (eq0_c _ _ _).mono ?_; rintro e w3 ⟨rfl, hx3⟩; have hE := hE.trans hx3) |
          (go_at_call 16; refine (mark0_c _ _ _).mono ?_; rintro e w4 ⟨rfl, hx4⟩; have hE := hE.trans hx4) |
          (go_at_call 17; refine (held0_c _ _ _).mono ?_; rintro e w5 ⟨rfl, hx5⟩; have hE := hE.trans hx5))
        go_ret
        exact ⟨rfl, hE.below⟩
      · have h12 : t.size = 1 ∧ s.size ≤ 4000 := by simpa [ssB] using hB
        obtain ⟨c, rfl⟩ := one_byte h12.1
        obtain ⟨P, hP⟩ : ∃ P, spI s c s.size 0 0 = P := ⟨_, rfl⟩
        have hPl := (spI_len s c s.size 0 0).1
        rw [hP] at hPl
        have HS := Lib.hid (fun w => specSplit_yes s c h12.2 hP w)
        have HI := Lib.hid (fun (w : World) (h : MaxP w) => implSplit_yes s c h12.2 hP h)
        have hPl2 : P.length ≤ 4001 := by omega
        obtain ⟨n, hn⟩ : ∃ n, P.length = n := ⟨_, rfl⟩
        rw [hn] at HS HI hPl2
        have Hn := Lib.hid hn
        clear hP hB h12 hPl hn
        go_enter Tryd.func5, Tryd.ntmps5
        go_wp2_with (go_at_call 13; refine (HS.out _).mono ?_; rintro e w1 ⟨g0, c0, rfl, hx1, hr0⟩; have hb0 := hr0.blk; have hM1 := HM.out.below hx1.below)
        go_wp2_with (go_at_call 14; refine (HI.out _ hM1).mono ?_; rintro e w2 ⟨g1, c1, rfl, hx2, hr1⟩; have hb1 := hr1.blk; have hr02 := hr0.ex hx2; have hM2 := hM1.below hx2.below)
        go_wp2_with (go_at_call 15; refine (eqSame_c Hn.out (by omega) (row_strs hr1 Hn.out) (row_strs hr02 Hn.out)).mono ?_; rintro e w3 ⟨rfl, hx3⟩; have hr03 := hr02.ex hx3; have hr13 := hr1.ex hx3; have hM3 := hM2.below hx3.below; have hE3 := (hx1.trans hx2).trans hx3; have hsz1 := hx1.below.size)
        have h2 := HM.out.lt
        go_wp2_with (go_at_call 16; refine (mark1_c n g1 c1 _ _ _ (by omega) hr13).mono ?_; rintro e w4 ⟨rfl, hK4, hs4⟩; have hE4 : Ex w w4 := Keeps.ex hE3 hK4 (by omega); have hs04 := sls_keeps (row_strs hr03 Hn.out) hK4 (fun b o e => by simp at e; omega); have hM4 := hM3.keeps hK4 (by omega))
        go_wp2_with (go_at_call 17; refine (held1_c n c1 _ _ (by omega) hs4).mono ?_; rintro e w5 ⟨rfl, hx5⟩; have hs5 := hs4.ex hx5; have hs05 := hs04.ex hx5; have hE5 := hE4.trans hx5; have hM5 := hM4.below hx5.below)
        go_wp2_with (go_at_call 14; refine (HI.out _ hM5).mono ?_; rintro e w6 ⟨g2, c2, rfl, hx6, hr6⟩; have hs6 := hs5.ex hx6; have hs06 := hs05.ex hx6; have hE6 := hE5.trans hx6)
        go_wp2_with (go_at_call 15; refine (eqSame_c Hn.out (by omega) (row_strs hr6 Hn.out) hs06).mono ?_; rintro e w7 ⟨rfl, hx7⟩; have hs7 := hs6.ex hx7; have hE7 := hE6.trans hx7)
        go_wp2_with (go_at_call 17; refine (held1_c n c1 _ _ (by omega) hs7).mono ?_; rintro e w8 ⟨rfl, hx8⟩; have hE8 := hE7.trans hx8)
        go_ret
        exact ⟨rfl, hE8.below⟩
    · go_enter Tryd.func5, Tryd.ntmps5
      go_wp2
      go_ret
      exact ⟨rfl, (Ex.refl w).below⟩
  · go_enter Tryd.func5, Tryd.ntmps5
    go_wp2
    go_ret
    exact ⟨rfl, (Ex.refl w).below⟩
end Go.Proofs.YtebgkdgcjpjigaaDoor
