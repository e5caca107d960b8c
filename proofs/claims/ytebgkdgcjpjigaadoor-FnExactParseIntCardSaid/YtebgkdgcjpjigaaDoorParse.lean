/- ParseInt: the program's own walk and the law. -/
import Derived.Test.YtebgkdgcjpjigaaDoorRead
import Derived.Test.YtebgkdgcjpjigaaDoorDoorT
import Derived.Test.YtebgkdgcjpjigaaDoorShelf
namespace Go.Proofs.YtebgkdgcjpjigaaDoor
set_option linter.unusedSimpArgs false
set_option linter.unusedVariables false
set_option maxHeartbeats 1000000
set_option maxRecDepth 100000
open Go.RowKit

/-- The library's two error variables hold some errors. -/
def ErrP (W : World) : Prop := (∃ t p, W.cell? ⟨0, 0, none⟩ = some (.iface t p)) ∧ (∃ t p, W.cell? ⟨1, 0, none⟩ = some (.iface t p))
theorem gErrS : Tryd.prog.globalNamed "strconv.ErrSyntax" = some 0 := by kernel_rfl
theorem gErrR : Tryd.prog.globalNamed "strconv.ErrRange" = some 1 := by kernel_rfl
theorem starE : "*" ++ "errors.errorString" = "*errors.errorString" := by decide
theorem rowErr (u : TypeId) (h : Tryd.prog.typeName? 3 u = some "*errors.errorString") : u = 98 :=
  typeName_ptr_named (nm := "errors.errorString") (by rw [starE]; kernel_rfl) (by kernel_rfl) (by decide) u (by rw [starE]; exact h)
theorem errP_of {W : World} {rest : List (String × DataW Unit)} (h : laidMet Tryd.prog (("strconv.ErrRange", Rows.laid_strconv_ErrRange) :: ("strconv.ErrSyntax", Rows.laid_strconv_ErrSyntax) :: rest) W) : ErrP W := by
  obtain ⟨a0, s0, hv0, _, _, _⟩ := laid_sentinel h gErrR (by kernel_rfl) Tryd.underlying43 rowErr Tryd.underlying98 Tryd.underlying100 rfl rfl Tryd.underlying9 (by kernel_rfl) (by kernel_rfl)
  obtain ⟨a1, s1, hv1, _, _, _⟩ := laid_sentinel h.tail gErrS (by kernel_rfl) Tryd.underlying43 rowErr Tryd.underlying98 Tryd.underlying100 rfl rfl Tryd.underlying9 (by kernel_rfl) (by kernel_rfl)
  exact ⟨⟨_, _, by simpa using World.var?_cell gErrS hv1 0⟩, ⟨_, _, by simpa using World.var?_cell gErrR hv0 0⟩⟩
theorem ErrP.below {W w : World} (h : ErrP W) (hb : Below W.heap.size W w) : ErrP w := by
  obtain ⟨⟨t, p, h0⟩, ⟨u, q, h1⟩⟩ := h
  exact ⟨⟨t, p, by rw [hb.cell (World.block_lt_of_cell? _ _ h0)]; exact h0⟩, ⟨u, q, by rw [hb.cell (World.block_lt_of_cell? _ _ h1)]; exact h1⟩⟩

theorem atoi_bad (s : ByteArray) (hs : s.size ≤ 1048576) (h : ∀ v, Lib.atoiAll s.data.toList ≠ .ok v) {w : World} (hE : ErrP w) : Calls Tryd.prog 32 #[.string s] w fun e w' => ∃ n N, e = .returned (.tuple #[.int .i64 n, .iface 68 (.pointer (some ⟨N, 0, none⟩))]) ∧ Ex w w' := by
  obtain ⟨⟨t, p, h0⟩, ⟨u, q, h1⟩⟩ := hE
  cases ha : Lib.atoiAll s.data.toList with
  | ok v => exact absurd ha (h v)
  | «syntax» =>
    refine (Tryd.strconv_Atoi_syntax s (by omega) ha _ w h0 (Or.inr ⟨_, _, rfl⟩)).mono ?_
    rintro e w' ⟨N, rfl, _, _, hb⟩
    exact ⟨_, _, rfl, Ex.of_below hb⟩
  | range =>
    refine (Tryd.strconv_Atoi_range s (by omega) ha _ w h1 (Or.inr ⟨_, _, rfl⟩)).mono ?_
    rintro e w' ⟨N, rfl, _, _, hb⟩
    exact ⟨_, _, rfl, Ex.of_below hb⟩
theorem atoi_good (s : ByteArray) (hs : s.size ≤ 1048576) {v : Int} (h : Lib.atoiAll s.data.toList = .ok v) (w : World) : Calls Tryd.prog 32 #[.string s] w fun e w' => e = .returned (.tuple #[.int .i64 v, .nilIface]) ∧ Ex w w' := by
  refine (Tryd.strconv_Atoi_ok s (by omega) v h w).mono ?_
  rintro e w' ⟨rfl, rfl | ⟨t, rfl⟩⟩
  · exact ⟨rfl, Ex.refl _⟩
  · exact ⟨rfl, Ex.of_below (Lib.bytesWorld_below _ _ _)⟩
theorem imV_bad {s : ByteArray} (h : ∀ v, Lib.atoiAll s.data.toList ≠ .ok v) : imV s = none := by
  unfold imV; cases ha : Lib.atoiAll s.data.toList with
  | ok v => exact absurd ha (h v)
  | «syntax» => rfl
  | range => rfl
theorem implParseInt_c (s : ByteArray) (hs : s.size ≤ 1048576) (w : World) {W : World} (hT : TabP W) (hM : ErrP W) (hE : Below W.heap.size W w) : Calls Tryd.prog 12 #[.string s] w fun e w' => e = .returned (.tuple #[.int .i64 ((imV s).getD 0), .bool (imV s).isSome]) ∧ Ex w w' := by
  have HT := Lib.hid hT
  have HE := Lib.hid hE
  have HM := Lib.hid (hM.below hE)
  clear hT hM hE
  by_cases hbad : ∀ v, Lib.atoiAll s.data.toList ≠ .ok v
  · have HC := Lib.hid (atoi_bad s hs hbad HM.out)
    rw [imV_bad hbad]
    clear hbad
    go_enter Tryd.func12, Tryd.ntmps12
    go_wp2_with (go_at_call 32; refine HC.out.mono ?_; rintro e w1 ⟨n, N, rfl, hx1⟩)
    go_ret2
    exact ⟨rfl, hx1⟩
  · obtain ⟨v, hv⟩ : ∃ v, Lib.atoiAll s.data.toList = .ok v := Classical.byContradiction fun h => hbad fun v e => h ⟨v, e⟩
    clear hbad
    have HC := Lib.hid (fun w => atoi_good s hs hv w)
    have Hb := Lib.hid (Lib.atoiAll_bounds hv)
    have Hi := Lib.hid (show imV s = if inR v (-999999) 999999 then fin s v else none by unfold imV; rw [hv])
    clear hv
    have HI := Lib.hid (fun w' (h : Below W.heap.size W w') => itoa_c HT.out v Hb.out.1 Hb.out.2 w' h)
    cases hin : inR v (-999999) 999999
    · rw [Hi.out, hin]
      have Hin := Lib.hid hin
      clear hin
      go_enter Tryd.func12, Tryd.ntmps12
      go_wp2_with (first | (go_at_call 32; refine (HC.out _).mono ?_; rintro e w1 ⟨rfl, hx1⟩; have hB1 := below_ex HE.out hx1) | (go_at_call 29; refine (within_c _ _ _ _).mono ?_; rw [Hin.out]; rintro e w2 ⟨rfl, hx2⟩))
      go_ret2
      exact ⟨rfl, hx1.trans hx2⟩
    · have hse := str_eq (txt v) s
      cases hd : decide (txt v = s)
      all_goals rw [hd] at hse
      · have Hin := Lib.hid hin
        rw [Hi.out, hin, if_pos rfl, fin_no hd]
        clear hin hd
        generalize txt v = z at *
        go_enter Tryd.func12, Tryd.ntmps12
        go_wp2_with (first | (go_at_call 32; refine (HC.out _).mono ?_; rintro e w1 ⟨rfl, hx1⟩; have hB1 := below_ex HE.out hx1) | (go_at_call 29; refine (within_c _ _ _ _).mono ?_; rw [Hin.out]; rintro e w2 ⟨rfl, hx2⟩; have hB2 := below_ex hB1 hx2) | (go_at_call 30; refine (HI.out _ hB2).mono ?_; rintro e w3 ⟨rfl, hx3⟩))
        go_ret2
        exact ⟨rfl, (hx1.trans hx2).trans hx3⟩
      · have Hin := Lib.hid hin
        rw [Hi.out, hin, if_pos rfl, fin_yes hd]
        clear hin hd
        generalize txt v = z at *
        go_enter Tryd.func12, Tryd.ntmps12
        go_wp2_with (first | (go_at_call 32; refine (HC.out _).mono ?_; rintro e w1 ⟨rfl, hx1⟩; have hB1 := below_ex HE.out hx1) | (go_at_call 29; refine (within_c _ _ _ _).mono ?_; rw [Hin.out]; rintro e w2 ⟨rfl, hx2⟩; have hB2 := below_ex hB1 hx2) | (go_at_call 30; refine (HI.out _ hB2).mono ?_; rintro e w3 ⟨rfl, hx3⟩))
        go_ret2
        exact ⟨rfl, (hx1.trans hx2).trans hx3⟩
theorem specParseInt_c (s : ByteArray) (hs : s.size ≤ 1048576) (w : World) : Calls Tryd.prog 11 #[.string s] w fun e w' => e = .returned (.tuple #[.int .i64 ((rdV s).getD 0), .bool (rdV s).isSome]) ∧ Ex w w' := by
  have HC := Lib.hid (fun w => l1Read_c s hs w)
  generalize rdV s = r at *
  go_enter Tryd.func11, Tryd.ntmps11
  go_wp2_with (go_at_call 31; refine (HC.out _).mono ?_; rintro e w1 ⟨rfl, hx1⟩)
  go_ret2
  exact ⟨rfl, hx1⟩
theorem fnExactParseInt_walk (s : ByteArray) (hl : s.size ≤ maxLen) (w : World) (hT : TabP w ∧ ErrP w) : Calls Tryd.prog 4 #[.string s] w fun e w' => e = .returned (.bool true) ∧ Below w.heap.size w w' := by
  have HT := Lib.hid hT
  clear hT
  by_cases hs : s.size ≤ 1048576
  · have HS := Lib.hid (fun w => specParseInt_c s hs w)
    have HI := Lib.hid (fun w' (h : Below w.heap.size w w') => implParseInt_c s hs w' HT.out.1 HT.out.2 h)
    rw [read_same] at HI
    obtain ⟨n, hn⟩ : ∃ n, (rdV s).getD 0 = n := ⟨_, rfl⟩
    obtain ⟨b, hb⟩ : ∃ b, (rdV s).isSome = b := ⟨_, rfl⟩
    rw [hn, hb] at HS HI
    clear hn hb
    cases b
    all_goals
      go_enter Tryd.func4, Tryd.ntmps4
      go_wp2_with (first | (go_at_call 11; refine (HS.out _).mono ?_; rintro e w1 ⟨rfl, hx1⟩; have hB1 := hx1.below) | (go_at_call 12; refine (HI.out _ hB1).mono ?_; rintro e w2 ⟨rfl, hx2⟩; have hE2 := hx1.trans hx2))
      go_ret
      exact ⟨rfl, hE2.below⟩
  · go_enter Tryd.func4, Tryd.ntmps4
    go_wp2
    go_ret
    exact ⟨rfl, (Ex.refl w).below⟩
end Go.Proofs.YtebgkdgcjpjigaaDoor
