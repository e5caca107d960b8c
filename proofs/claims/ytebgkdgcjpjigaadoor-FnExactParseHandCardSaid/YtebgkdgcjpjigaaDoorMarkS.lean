/- The laws' own marks on slices of strings: the walks. -/
import Derived.Test.YtebgkdgcjpjigaaDoorSplitW
import Derived.Test.YtebgkdgcjpjigaaDoorText
import Derived.Test.YtebgkdgcjpjigaaDoorFmt
namespace Go.Proofs.YtebgkdgcjpjigaaDoor
set_option linter.unusedSimpArgs false
set_option linter.unusedVariables false
set_option maxHeartbeats 1000000
set_option maxRecDepth 100000
open Go.RowKit

theorem conv_box (k : Nat) (w : World) (b : Nat) (h : w.cell? ⟨b, 0, none⟩ = some (.int .u8 (48 + (k : Int) % 10))) : (convert 60 9 (.slice (some ⟨b, 0, none⟩) 1 1)).run Tryd.prog w = .ok (.string ⟨#[dig (k % 10)]⟩) w := by
  have hz : (⟨#[dig (k % 10)]⟩ : ByteArray).size = 1 := rfl
  rw [← hz]
  refine Lib.run_convert_whole w _ 5 _ Tryd.underlying60 Tryd.underlying5 Tryd.underlying9 b 0 _ (fun i hi => ?_) 1
  have : i = 0 := by rw [hz] at hi; omega
  subst this
  rw [Nat.zero_add, h]
  congr 2
  show (48 + (k : Int) % 10) = ((dig (k % 10)).toNat : Int)
  have h10 : k % 10 < 10 := Nat.mod_lt _ (by omega)
  have hd : ∀ n, n < 10 → ((dig n).toNat : Int) = 48 + n := by decide
  rw [hd _ h10]; omega
theorem markText_c (K : Nat) (h1 : 1 ≤ K) (h2 : K ≤ 1000000000000) (w : World) : Calls Tryd.prog 35 #[.int .i64 K] w fun e w' => e = .returned (.string (⟨#[109]⟩ ++ ⟨(dec K).toArray⟩)) ∧ Ex w w' := by
  go_enter Tryd.func35, Tryd.ntmps35
  go_wp2
  go_loopw [0, 3] (fun u v wr => ∃ (k : Nat) (out : ByteArray), u = .int .i64 k ∧ v = .string out ∧ k ≤ K ∧ out.size ≤ 20 ∧ (k = 0 → out.data.toList = dec K) ∧ (0 < k → dec k ++ out.data.toList = dec K) ∧ Ex w wr) (fun u _ _ => (intOf u).toNat)
  case atStart => exact ⟨K, ⟨#[]⟩, rfl, rfl, Nat.le_refl _, by decide, fun h => by omega, fun _ => by simp, Ex.refl _⟩
  case round =>
    obtain ⟨k, out, rfl, rfl, hk, hsz, hz, hp, hE⟩ := hrel
    have Hz := Lib.hid hz
    have Hp := Lib.hid hp
    clear hz hp
    by_cases h0 : 0 < k
    · have hcv : (convert 60 9 (.slice (some ⟨wr.heap.size, 0, none⟩) 1 1)).run Tryd.prog (wr.alloc (.cells #[.int .u8 (48 + (k : Int) % 10)] 5)) = .ok (.string ⟨#[dig (k % 10)]⟩) (wr.alloc (.cells #[.int .u8 (48 + (k : Int) % 10)] 5)) := conv_box k _ _ (by rw [World.cell?_alloc_at _ _ _ _ rfl]; rfl)
      have Hdec := Lib.hid (show (k / 10 = 0 → [dig (k % 10)] = dec k) ∧ (0 < k / 10 → dec (k / 10) ++ [dig (k % 10)] = dec k) from ⟨fun e => by rw [dec_small (by omega), Nat.mod_eq_of_lt (by omega)], fun e => (dec_big (by omega)).symm⟩)
      have Hcat := Lib.hid (show (⟨#[dig (k % 10)]⟩ ++ out : ByteArray).data.toList = [dig (k % 10)] ++ out.data.toList by simp)
      have Hlen := Lib.hid (show (⟨#[dig (k % 10)]⟩ ++ out : ByteArray).size = 1 + out.size by rw [ByteArray.size_append]; rfl)
      have Hall := Lib.hid (show dec k ++ out.data.toList = dec K from Hp.out h0)
      have Hbd := Lib.hid (show 1 + out.size ≤ 20 by
        have h3 := congrArg List.length Hall.out
        have h4 := dig_len K 14 (by omega)
        have h5 : 1 ≤ (dec k).length := by
          by_cases hk1 : k < 10
          · rw [dec_small hk1]; simp
          · rw [dec_big hk1]; simp
        have h6 : out.data.toList.length = out.size := by rw [Array.length_toList]; rfl
        rw [List.length_append, h6] at h3
        omega)
      go_wp2
      go_roundw
      case rel =>
        (try ((repeat apply Exists.intro); refine ⟨?_, rfl⟩))
        refine ⟨k / 10, ⟨#[dig (k % 10)]⟩ ++ out, rfl, rfl, Nat.le_trans (Nat.div_le_self _ _) hk, by rw [Hlen.out]; exact Hbd.out, fun e => ?_, fun e => ?_, hE.alloc _⟩
        · rw [Hcat.out, Hdec.out.1 e, Hall.out]
        · rw [Hcat.out, ← List.append_assoc, Hdec.out.2 e, Hall.out]
      case measure => show ((k : Int) / 10).toNat < ((k : Int)).toNat; omega
    · have : k = 0 := by omega
      subst this
      go_wp2
      go_ret
      have e : out = ⟨(dec K).toArray⟩ := ByteArray.ext (Array.ext' (by rw [Hz.out (by first | trivial | rfl)]))
      rw [← e]
      exact ⟨rfl, hE⟩

/-- The mark of number 'k'. -/
def mkS (k : Nat) : ByteArray := ⟨#[109]⟩ ++ ⟨(dec k).toArray⟩
theorem mkS_eq (k : Nat) : (mkS k).toList == (mkS k).toList := beq_self_eq_true _
theorem markText_q {K : Nat} {z : ByteArray} (hz : mkS K = z) (h1 : 1 ≤ K) (h2 : K ≤ 1000000000000) (w : World) : Calls Tryd.prog 35 #[.int .i64 K] w fun e w' => e = .returned (.string z) ∧ Ex w w' := by
  subst hz; exact markText_c K h1 h2 w
def mkL (k : Nat) : Nat → List ByteArray
  | 0 => []
  | n + 1 => mkS k :: mkL (k + 1) n
@[simp] theorem mkL_length : ∀ n k, (mkL k n).length = n
  | 0, _ => rfl
  | n + 1, k => by simp [mkL, mkL_length n]
theorem mkL_get : ∀ n k i (h : i < n), (mkL k n)[i]? = some (mkS (k + i))
  | n + 1, k, 0, _ => by simp [mkL]
  | n + 1, k, i + 1, h => by rw [mkL, List.getElem?_cons_succ, mkL_get n (k + 1) i (by omega)]; congr 2; omega
end Go.Proofs.YtebgkdgcjpjigaaDoor
