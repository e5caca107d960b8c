/- The walk of l1Split, and what it answers. -/
import Derived.Test.YtebgkdgcjpjigaaDoorJoinS
import Derived.Test.YtebgkdgcjpjigaaDoorOwn
namespace Go.Proofs.YtebgkdgcjpjigaaDoor
set_option linter.unusedSimpArgs false
set_option linter.unusedVariables false
set_option maxHeartbeats 1000000
set_option maxRecDepth 100000
open Go.RowKit

/-- The parts of a text between bytes, from a place on; 'd' bytes are left. -/
def spI (s : ByteArray) (c : UInt8) : Nat → Nat → Nat → List ByteArray
  | 0, a, _ => [s.extract a s.size]
  | d + 1, a, i => if s[i]! = c then s.extract a i :: spI s c d (i + 1) (i + 1) else spI s c d a (i + 1)
theorem spI_len (s : ByteArray) (c : UInt8) : ∀ d a i, (spI s c d a i).length ≤ d + 1 ∧ 1 ≤ (spI s c d a i).length := by
  intro d
  induction d with
  | zero => intro a i; simp [spI]
  | succ d ih =>
    intro a i
    rw [spI]
    split
    · have := ih (i + 1) (i + 1); simp; omega
    · have := ih a (i + 1); omega

theorem l1Split_c (s : ByteArray) (c : UInt8) (hs : s.size ≤ 1048576) (w : World) :
    Calls Tryd.prog 33 #[.string s, .int .u8 (c.toNat : Int)] w fun e w' => ∃ g cap', e = .returned (.slice (some ⟨g, 0, none⟩) (spI s c s.size 0 0).length cap') ∧ Ex w w' ∧ RowV 9 1 w.heap.size w' g cap' (spI s c s.size 0 0).length (strVals (spI s c s.size 0 0)) := by
  go_enter Tryd.func33, Tryd.ntmps33
  go_wp2
  go_loopw [5, 6, 7] (fun u v x wr => ∃ (k a g cap n : Nat) (P : List ByteArray), k ≤ s.size ∧ a ≤ k ∧ P.length = n ∧ n ≤ k ∧ u = .slice (some ⟨g, 0, none⟩) n cap ∧ v = .int .i64 a ∧ x = .int .i64 k ∧ Ex w wr ∧ RowV 9 1 w.heap.size wr g cap n (strVals P) ∧ spI s c s.size 0 0 = P ++ spI s c (s.size - k) a k) (fun _ _ x _ => s.size - (intOf x).toNat)
  case atStart => exact ⟨0, 0, w.heap.size, 0, 0, [], Nat.zero_le _, Nat.le_refl _, rfl, Nat.le_refl _, rfl, rfl, rfl, by repeat (first | exact Ex.refl _ | refine Ex.ext ?_ _ | refine Ex.alloc ?_ _ | refine Ex.drew ?_), RowV.start w 9 1, by simp⟩
  case round =>
    obtain ⟨k, a, g, cap, n, P, hk, ha, hP, hn, rfl, rfl, rfl, hE, hrow, hf⟩ := hrel
    have HE := Lib.hid hE
    have Hf := Lib.hid hf
    have HP := Lib.hid hP
    clear hE hf hP
    by_cases hlt : k < s.size
    · obtain ⟨dd, hdd⟩ : ∃ dd, s.size - k = dd + 1 := ⟨s.size - k - 1, by omega⟩
      have hcb : s[k].toNat < 256 := s[k].toNat_lt
      have hget : s[k]! = s[k] := by exact getElem!_pos s k hlt
      by_cases h : s[k] = c
      · have Hf2 := Lib.hid (show spI s c s.size 0 0 = (P ++ [s.extract a k]) ++ spI s c (s.size - (k + 1)) (k + 1) (k + 1) by
          rw [Hf.out, hdd, spI, if_pos (by rw [hget, h]), show s.size - (k + 1) = dd by omega, List.append_assoc]; rfl)
        have hnn : ((s[k].toNat : Nat) : Int) = ((c.toNat : Nat) : Int) := by rw [h]
        clear h hget hdd
        go_wp2_with (at_builtin; refine wp_app rowStr (nW := _) (by simp [go_sem]) rfl _ _ rfl rfl hrow 1 1 [.string (s.extract a k)] rfl rfl (oneS _) (by omega) ?c2 ?c3 ?_; (case c2 => (unfold maxLen; omega)); (case c3 => omega); intro g' cap' wq hrow' hK hg')
        have hb := hrow.blk
        go_roundw
        case rel =>
          (try ((repeat apply Exists.intro); refine ⟨?_, rfl⟩))
          exact ⟨k + 1, k + 1, g', cap', n + 1, P ++ [s.extract a k], by omega, by omega, by simp [HP.out], by omega, rfl, by go_num, by go_num, Keeps.ex (HE.out) hK (by omega), by rw [strVals_append]; exact hrow', Hf2.out⟩
        case measure => simp [intOf]; omega
      · have Hf2 := Lib.hid (show spI s c s.size 0 0 = P ++ spI s c (s.size - (k + 1)) a (k + 1) by
          rw [Hf.out, hdd, spI, if_neg (by rw [hget]; exact h), show s.size - (k + 1) = dd by omega])
        have hnn : ¬ ((s[k].toNat : Nat) : Int) = ((c.toNat : Nat) : Int) := fun e => h (UInt8.toNat_inj.1 (by omega))
        clear h hget hdd
        go_wp2
        go_roundw
        case rel =>
          (try ((repeat apply Exists.intro); refine ⟨?_, rfl⟩))
          exact ⟨k + 1, a, g, cap, n, P, by omega, by omega, HP.out, by omega, rfl, rfl, by go_num, HE.out, hrow, Hf2.out⟩
        case measure => simp [intOf]; omega
    · have : k = s.size := by omega
      subst this
      have Hf2 := Lib.hid (show spI s c s.size 0 0 = P ++ [s.extract a s.size] by rw [Hf.out, Nat.sub_self]; rfl)
      go_wp2_with (at_builtin; refine wp_app rowStr (nW := _) (by simp [go_sem]) rfl _ _ rfl rfl hrow 1 1 [.string (s.extract a s.size)] rfl rfl (oneS _) (by omega) ?c2 ?c3 ?_; (case c2 => (unfold maxLen; omega)); (case c3 => omega); intro g' cap' wq hrow' hK hg')
      have hb := hrow.blk
      go_ret
      rw [Hf2.out]
      have hl : (P ++ [s.extract a s.size]).length = n + 1 := by simp [HP.out]
      rw [hl, strVals_append]
      exact ⟨g', cap', rfl, Keeps.ex HE.out hK (by omega), hrow'⟩
end Go.Proofs.YtebgkdgcjpjigaaDoor
