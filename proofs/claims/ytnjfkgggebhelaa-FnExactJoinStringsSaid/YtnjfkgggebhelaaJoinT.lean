/- The walk of impl.JoinStrings, and of the law on it. -/
import Derived.Test.YtnjfkgggebhelaaJoinS
namespace Go.Proofs.Ytnjfkgggebhelaa
set_option linter.unusedSimpArgs false
set_option linter.unusedVariables false
set_option maxHeartbeats 1000000
set_option maxRecDepth 100000
open Go.RowKit

theorem contains_q {x : ByteArray} {c : UInt8} {r : Bool} (hr : stB x c = r) (w : World) : Calls Try.prog 68 #[.string x, .string ⟨#[c]⟩] w fun e w' => e = .returned (.bool r) ∧ Ex w w' := by
  subst hr; exact contains_s x c w
theorem sl_cells {w : World} {b : Nat} {xs : List ByteArray} (h : SlS w (some ⟨b, 0, none⟩) xs) : ∀ (j : Nat) x, xs[j]? = some x → w.cell? ⟨b, 0 + j, none⟩ = some (.string x) := by
  intro j x hj
  obtain ⟨hl, e⟩ := List.getElem?_eq_some_iff.1 hj
  obtain ⟨b', o', e', hb, h1⟩ := h j hl
  simp at e'
  obtain ⟨rfl, rfl⟩ := e'
  rw [h1, e]

theorem implJoinStrings_c (xs : List ByteArray) (sep : ByteArray) (b : Nat) (cap : Nat) (w : World) (hn : xs.length ≤ 2000000) (hx : ∀ x ∈ xs, x.size ≤ 2000000) (hs : sep.size ≤ 2000000) (hcap : xs.length ≤ cap) (hz : SlS w (some ⟨b, 0, none⟩) xs) :
    Calls Try.prog 31 #[.slice (some ⟨b, 0, none⟩) xs.length cap, .string sep] w fun e w' => e = .returned (.tuple #[.string (jsR xs sep), .bool (jsB xs sep)]) ∧ Ex w w' := by
  have Hz := Lib.hid hz
  have Hx := Lib.hid hx
  clear hz hx
  by_cases h0 : xs.length = 0
  · have hB : jsB xs sep = false := by simp [jsB, h0]
    have HR := Lib.hid (show jsR xs sep = ⟨#[]⟩ by simp [jsR, hB])
    have HB := Lib.hid hB
    rw [HB.out, HR.out]
    clear hB
    have hi0 : (xs.length : Int) = 0 := by omega
    go_enter Try.func31, Try.ntmps31
    go_wp2
    go_ret2
    exact ⟨rfl, by repeat (first | exact Ex.refl _ | refine Ex.ext ?_ _ | refine Ex.alloc ?_ _ | refine Ex.drew ?_)⟩
  · have hi0 : ¬ (xs.length : Int) = 0 := by omega
    have hib : ((xs.length : Int) == 0) = false := by rw [beq_eq_false_iff_ne]; exact hi0
    by_cases h1 : sep.size = 1
    · obtain ⟨c, rfl⟩ := one_byte h1
      have hsz := Lib.hid (jnS_size ⟨#[c]⟩ h1)
      have hwr : IntKind.i64.wrap ((xs.length : Int) - 1) = (xs.length : Int) - 1 := IntWalk.i64_in _ (by omega)
      clear h1
      go_enter Try.func31, Try.ntmps31
      go_wp2
      go_loopw [6, 22] (fun u v wr => ∃ (k : Nat) (r : Int), k ≤ xs.length ∧ v = .int .i64 k ∧ u = .int .i64 r ∧ r = (xs.length : Int) - 1 + tot (xs.take k) ∧ r ≤ 2000000 ∧ (0 < k → r ≤ 4000) ∧ (∀ j (h : j < xs.length), j < k → stB xs[j] c = false) ∧ Ex w wr) (fun _ v _ => xs.length - (intOf v).toNat)
      case atStart => exact ⟨0, _, Nat.zero_le _, rfl, rfl, by simp [tot], by omega, fun h => by omega, fun j _ h => by omega, by repeat (first | exact Ex.refl _ | refine Ex.ext ?_ _ | refine Ex.alloc ?_ _ | refine Ex.drew ?_)⟩
      case round =>
        obtain ⟨k, r, hk, rfl, rfl, hr, hr2, hr4, hcl, hE⟩ := hrel
        have HE := Lib.hid hE
        have Hr := Lib.hid hr
        have Hr4 := Lib.hid hr4
        have Hcl := Lib.hid hcl
        have hr0 : 0 ≤ r := by omega
        clear hr hcl hr4
        by_cases hlt : k < xs.length
        · obtain ⟨b', o', e', hb, e1⟩ := (Hz.out.ex hE) k hlt
          simp at e'
          obtain ⟨rfl, rfl⟩ := e'
          simp only [Nat.zero_add] at e1
          have hzs := Hx.out xs[k] (List.getElem_mem _)
          have Hm := Lib.hid (List.getElem_mem hlt)
          have Hg := Lib.hid (List.getElem?_eq_getElem hlt)
          have Ht := Lib.hid (show tot (xs.take (k + 1)) = tot (xs.take k) + (xs[k]).size by rw [takeS hlt, tot_snoc])
          have Htt := Lib.hid (tot_take xs (k + 1))
          clear hE
          generalize xs[k] = z at *
          have hwr2 : IntKind.i64.wrap (r + z.size) = r + z.size := IntWalk.i64_in _ (by omega)
          cases hst : stB z c
          · by_cases hbig : (4000 : Int) < r + z.size
            · have hB' := jsB_long (xs := xs) (sep := ⟨#[c]⟩) (by
                rw [hsz.out]
                have e1 := Ht.out
                have e2 := Htt.out
                have e3 := Hr.out
                omega)
              have HB' := Lib.hid hB'
              have HR' := Lib.hid (show jsR xs ⟨#[c]⟩ = ⟨#[]⟩ by simp [jsR, hB'])
              clear hB'
              go_wp2_with (go_at_call 68; refine (contains_q hst _).mono ?_; rintro e w' ⟨rfl, x, rfl⟩)
              go_ret2
              rw [HB'.out, HR'.out]
              exact ⟨rfl, HE.out.trans (by repeat (first | exact Ex.refl _ | refine Ex.ext ?_ _ | refine Ex.alloc ?_ _ | refine Ex.drew ?_))⟩
            · go_wp2_with (go_at_call 68; refine (contains_q hst _).mono ?_; rintro e w' ⟨rfl, x, rfl⟩)
              go_roundw
              case rel =>
                (try ((repeat apply Exists.intro); refine ⟨?_, rfl⟩))
                refine ⟨k + 1, _, by omega, by go_num, rfl, by have := Ht.out; have := Hr.out; omega, by omega, fun _ => by omega, fun j hj hjk => ?_, HE.out.trans (by repeat (first | exact Ex.refl _ | refine Ex.ext ?_ _ | refine Ex.alloc ?_ _ | refine Ex.drew ?_))⟩
                by_cases e : j = k
                · subst e
                  have := Hg.out
                  rw [List.getElem?_eq_getElem hj] at this
                  rw [Option.some.inj this]; exact hst
                · exact Hcl.out j hj (by omega)
              case measure => simp [intOf]; omega
          · have hB' := jsB_dirty Hm.out hst
            have HB' := Lib.hid hB'
            have HR' := Lib.hid (show jsR xs ⟨#[c]⟩ = ⟨#[]⟩ by simp [jsR, hB'])
            clear hB'
            go_wp2_with (go_at_call 68; refine (contains_q hst _).mono ?_; rintro e w' ⟨rfl, x, rfl⟩)
            go_ret2
            rw [HB'.out, HR'.out]
            exact ⟨rfl, HE.out.trans (by repeat (first | exact Ex.refl _ | refine Ex.ext ?_ _ | refine Ex.alloc ?_ _ | refine Ex.drew ?_))⟩
        · have : k = xs.length := by omega
          subst this
          have Hzr := Lib.hid (Hz.out.ex hE)
          have hblk : b < wr.heap.size := by
            obtain ⟨b', o', e', hb, _⟩ := (Hz.out.ex hE) 0 (by omega)
            simp at e'
            obtain ⟨rfl, rfl⟩ := e'
            exact hb
          clear hE
          have hj4 : (jnS xs ⟨#[c]⟩).size ≤ 4000 := by
            rw [hsz.out]
            have e1 := Hr.out
            have e2 := Hr4.out (by omega)
            rw [List.take_length] at e1
            omega
          have hB' := jsB_yes h0 (fun j hj => Hcl.out j hj hj) hj4
          have HB' := Lib.hid hB'
          have HR' := Lib.hid (show jsR xs ⟨#[c]⟩ = jnS xs ⟨#[c]⟩ by simp [jsR, hB'])
          clear hB'
          have hjl : (jnS xs ⟨#[c]⟩).size = (Lib.join (xs.map (·.data.toList)) ((⟨#[c]⟩ : ByteArray).data.toList)).length := by simp [jnS, ByteArray.size]
          have HJ := Lib.hid (Try.strings_Join b 0 cap xs ⟨#[c]⟩ wr (sl_cells Hzr.out) hblk (by omega) hcap (by omega))
          clear hjl hj4
          go_wp2_with (go_at_call 69; refine HJ.out.mono ?_; rintro e w7 ⟨rfl, hb7⟩)
          go_ret2
          rw [HB'.out, HR'.out]
          exact ⟨rfl, HE.out.trans (Ex.of_below hb7)⟩
    · have hB : jsB xs sep = false := by simp [jsB, h1]
      have hR : jsR xs sep = ⟨#[]⟩ := by simp [jsR, hB]
      rw [hB, hR]
      clear hB hR
      have h1' : ¬ (sep.size : Int) = 1 := by omega
      have h1b : ((sep.size : Int) != 1) = true := by rw [bne_iff_ne]; exact h1'
      go_enter Try.func31, Try.ntmps31
      go_wp2
      go_ret2
      exact ⟨rfl, by repeat (first | exact Ex.refl _ | refine Ex.ext ?_ _ | refine Ex.alloc ?_ _ | refine Ex.drew ?_)⟩

structure SlSAt (w0 : World) (p : Option Addr) (n : Nat) (xs : List ByteArray) : Prop where
  len : xs.length = n
  sl : SlS w0 p xs
theorem tot_mem {xs : List ByteArray} : ∀ x ∈ xs, x.size ≤ tot xs := by
  induction xs with
  | nil => intro x hx; simp at hx
  | cons y ys ih =>
    intro x hx
    have e : tot (y :: ys) = y.size + tot ys := by simp [tot]
    rcases List.mem_cons.1 hx with rfl | h
    · omega
    · have := ih x h; omega
theorem fnExactJoinStrings_walk (w : World) (p : Option Addr) (xs : List ByteArray) (cap : Nat) (hl : xs.length ≤ maxLen ∧ ∀ x ∈ xs, x.size ≤ maxLen) (hz : SlS w p xs) (sep : ByteArray) (hsep : sep.size ≤ maxLen) :
    Calls Try.prog 8 #[.slice p xs.length cap, .string sep] w fun e w' => e = .returned (.bool true) ∧ Below w.heap.size w w' := by
  unfold maxLen at hl hsep
  obtain ⟨hl1, hl2⟩ := hl
  have Hl2 := Lib.hid hl2
  have Hz := Lib.hid hz
  clear hz hl2
  have hB := Below.refl w.heap.size w
  by_cases h1 : (1048576 : Int) < sep.size
  · go_enter Try.func8, Try.ntmps8
    go_wp2
    go_ret
    exact ⟨rfl, Ex.below (by repeat (first | exact Ex.refl _ | refine Ex.ext ?_ _ | refine Ex.alloc ?_ _ | refine Ex.drew ?_))⟩
  · by_cases h2 : (1048576 : Int) - xs.length - tot xs < 0
    · have hr : szSR xs 1048576 = -1 := by unfold szSR; rw [if_pos h2]
      clear h2
      go_enter Try.func8, Try.ntmps8
      go_wp2_with (go_at_call 28; refine (szS_c xs _ _ _ _ (by omega) Hl2.out (by omega) (by omega) (Hz.out.ex (by exact by repeat (first | exact Ex.refl _ | refine Ex.ext ?_ _ | refine Ex.alloc ?_ _ | refine Ex.drew ?_)))).mono ?_; rw [hr]; rintro e w1 ⟨rfl, hx⟩; have hB := below_ex hB (Ex.trans (by exact by repeat (first | exact Ex.refl _ | refine Ex.ext ?_ _ | refine Ex.alloc ?_ _ | refine Ex.drew ?_)) hx); clear hx)
      go_ret
      exact ⟨rfl, hB⟩
    · have hr : szSR xs 1048576 = 1048576 - xs.length - tot xs := by unfold szSR; rw [if_neg h2]
      have hxs := Lib.hid (show ∀ x ∈ xs, x.size ≤ 2000000 from fun x hx => by have := tot_mem x hx; omega)
      go_enter Try.func8, Try.ntmps8
      go_wp2_with (go_at_call 28; refine (szS_c xs _ _ _ _ (by omega) Hl2.out (by omega) (by omega) (Hz.out.ex (by exact by repeat (first | exact Ex.refl _ | refine Ex.ext ?_ _ | refine Ex.alloc ?_ _ | refine Ex.drew ?_)))).mono ?_; rw [hr]; rintro e w1 ⟨rfl, hx⟩; have hB := below_ex hB (Ex.trans (by exact by repeat (first | exact Ex.refl _ | refine Ex.ext ?_ _ | refine Ex.alloc ?_ _ | refine Ex.drew ?_)) hx); clear hx)
      go_wp2_with (go_at_call 30; refine (toStrS_c xs _ _ _ (by omega) (Hz.out.below hB)).mono ?_; rintro e w2 ⟨ga, rfl, hx, ra⟩; have hB := below_ex hB hx; clear hx)
      go_wp2_with (go_at_call 29; refine (specJoinStrings_c xs sep _ _ _ (by omega) hxs.out (by omega) ra).mono ?_; rintro e w3 ⟨rfl, hx⟩; have hB := below_ex hB hx; clear hx)
      go_wp2_with (go_at_call 30; refine (toStrS_c xs _ _ _ (by omega) (Hz.out.below hB)).mono ?_; rintro e w4 ⟨gb, rfl, hx, rb⟩; have hB := below_ex hB hx; clear hx)
      go_wp2_with (go_at_call 31; refine (implJoinStrings_c xs sep _ _ _ (by omega) hxs.out (by omega) (by omega) rb).mono ?_; rintro e w5 ⟨rfl, hx⟩; have rb := rb.ex hx; have hB := below_ex hB hx; clear hx)
      go_wp2_with (go_at_call 30; refine (toStrS_c xs _ _ _ (by omega) (Hz.out.below hB)).mono ?_; rintro e w6 ⟨gc, rfl, hx, rc⟩; have rb := rb.ex hx; have hB := below_ex hB hx; clear hx)
      go_wp2_with (go_at_call 32; refine (eqStrS_c xs xs _ _ _ _ _ (by omega) (by omega) rb rc).mono ?_; rintro e w7 ⟨rfl, hx⟩; have hB := below_ex hB hx; clear hx)
      go_ret
      exact ⟨rfl, hB⟩
end Go.Proofs.Ytnjfkgggebhelaa
