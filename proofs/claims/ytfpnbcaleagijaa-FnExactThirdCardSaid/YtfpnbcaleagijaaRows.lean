/-
  No cell of these rows narrows 'for every input' (looked for: loops, veiled, ifaces, maps, wideKeys, modest, calm, conditions, laid).
  DERIVED. THE GIVEN ROWS OF THIS SEAT. 12 by the template 'for every input the law returns true; each argument reads behind the call as it read before'; 0 by the template 'total and deterministic' (their statements: YtfpnbcaleagijaaTotals.lean).
  GIVEN WITH THE SEED: the statements are not yours to turn. If you find one false, say at which input.
  Laid BY PROGRAM, IN A SANDBOX (cutbox-rows.mjs): the forced cells as the released guide's own fill.sh prints them over the translation a9a476aff853a3b1… (all of the seat's roots in one cut). By AI agents, Wed Nov 11 2026. No macro, syntax, notation, axiom, sorry.
-/
import Derived.Test.YtfpnbcaleagijaaChecked
import GoSem.Claim
import GoSem.ClaimJoined
import GoSem.ClaimMapViews
import Derived.JoinedTies
import Derived.KernelRfl
namespace Go.Proofs.Ytfpnbcaleagijaa
/- THE CELL 'sum', in the pinned program and in every row, IS THE sha256 OF THE DUMP (.gsa) THAT YtfpnbcaleagijaaProg.lean LOADS. Nothing in Lean hashes anything: it is a label: what it is worth is what the hold of that sum in a sandbox is worth. -/
noncomputable def Try.pinned : Pinned := { name := "ytfpnbcaleagijaa", sum := "a9a476aff853a3b1171734ee62beb094092f3cd6738694656914b213863d1a28", checked := Try.checked }
namespace Rows
def none {H : Type} : Left H := { results := [], args := [] }

/-- 'laws.FnExactConstants': WHATEVER THE INPUT: true; the input reads as it did. -/
def fnExactConstantsSpec : ChangeSpec := { name := "fnExactConstants", fn := fun _ => fun
  | [] => { results := [.lit (.bool true)], args := [] }
  | _ => none }
def fnExactConstantsRow : OpenClaim := { program := "ytfpnbcaleagijaa", sum := "a9a476aff853a3b1171734ee62beb094092f3cd6738694656914b213863d1a28", func := "loop.example/g01203/laws.FnExactConstants", spec := "fnExactConstants", apart := false }
def FnExactConstantsSaid : Prop := fnExactConstantsRow.holds Try.pinned (OpenSpec.ofChange fnExactConstantsSpec)

/-- ITS FALSE NEIGHBOUR: 'it returns false'. Refute it at one input. -/
def fnExactConstantsWrong : ChangeSpec := { name := "fnExactConstants", fn := fun _ => fun
  | [] => { results := [.lit (.bool false)], args := [] }
  | _ => none }
def FnExactConstantsWrongFalsely : Prop := fnExactConstantsRow.holds Try.pinned (OpenSpec.ofChange fnExactConstantsWrong)

/-- 'laws.FnExactLessString': WHATEVER THE INPUT: true; the input reads as it did. -/
def fnExactLessStringSpec : ChangeSpec := { name := "fnExactLessString", fn := fun _ => fun
  | [d1, d2] => { results := [.lit (.bool true)], args := [d1, d2] }
  | _ => none }
def fnExactLessStringRow : OpenClaim := { program := "ytfpnbcaleagijaa", sum := "a9a476aff853a3b1171734ee62beb094092f3cd6738694656914b213863d1a28", func := "loop.example/g01203/laws.FnExactLessString", spec := "fnExactLessString", apart := false }
def FnExactLessStringSaid : Prop := fnExactLessStringRow.holds Try.pinned (OpenSpec.ofChange fnExactLessStringSpec)

/-- ITS FALSE NEIGHBOUR: 'it returns false'. Refute it at one input. -/
def fnExactLessStringWrong : ChangeSpec := { name := "fnExactLessString", fn := fun _ => fun
  | [d1, d2] => { results := [.lit (.bool false)], args := [d1, d2] }
  | _ => none }
def FnExactLessStringWrongFalsely : Prop := fnExactLessStringRow.holds Try.pinned (OpenSpec.ofChange fnExactLessStringWrong)

/-- 'laws.FnExactNextSeed': WHATEVER THE INPUT: true; the input reads as it did. -/
def fnExactNextSeedSpec : ChangeSpec := { name := "fnExactNextSeed", fn := fun _ => fun
  | [d] => { results := [.lit (.bool true)], args := [d] }
  | _ => none }
def fnExactNextSeedRow : OpenClaim := { program := "ytfpnbcaleagijaa", sum := "a9a476aff853a3b1171734ee62beb094092f3cd6738694656914b213863d1a28", func := "loop.example/g01203/laws.FnExactNextSeed", spec := "fnExactNextSeed", apart := false }
def FnExactNextSeedSaid : Prop := fnExactNextSeedRow.holds Try.pinned (OpenSpec.ofChange fnExactNextSeedSpec)

/-- ITS FALSE NEIGHBOUR: 'it returns false'. Refute it at one input. -/
def fnExactNextSeedWrong : ChangeSpec := { name := "fnExactNextSeed", fn := fun _ => fun
  | [d] => { results := [.lit (.bool false)], args := [d] }
  | _ => none }
def FnExactNextSeedWrongFalsely : Prop := fnExactNextSeedRow.holds Try.pinned (OpenSpec.ofChange fnExactNextSeedWrong)

/-- 'laws.FnExactCardAt': WHATEVER THE INPUT: true; the input reads as it did. -/
def fnExactCardAtSpec : ChangeSpec := { name := "fnExactCardAt", fn := fun _ => fun
  | [d] => { results := [.lit (.bool true)], args := [d] }
  | _ => none }
def fnExactCardAtRow : OpenClaim := { program := "ytfpnbcaleagijaa", sum := "a9a476aff853a3b1171734ee62beb094092f3cd6738694656914b213863d1a28", func := "loop.example/g01203/laws.FnExactCardAt", spec := "fnExactCardAt", apart := false }
def FnExactCardAtSaid : Prop := fnExactCardAtRow.holds Try.pinned (OpenSpec.ofChange fnExactCardAtSpec)

/-- ITS FALSE NEIGHBOUR: 'it returns false'. Refute it at one input. -/
def fnExactCardAtWrong : ChangeSpec := { name := "fnExactCardAt", fn := fun _ => fun
  | [d] => { results := [.lit (.bool false)], args := [d] }
  | _ => none }
def FnExactCardAtWrongFalsely : Prop := fnExactCardAtRow.holds Try.pinned (OpenSpec.ofChange fnExactCardAtWrong)

/-- 'laws.FnExactChecksum': WHATEVER THE INPUT: true; the input reads as it did. -/
def fnExactChecksumSpec : ChangeSpec := { name := "fnExactChecksum", fn := fun _ => fun
  | [d] => { results := [.lit (.bool true)], args := [d] }
  | _ => none }
def fnExactChecksumRow : OpenClaim := { program := "ytfpnbcaleagijaa", sum := "a9a476aff853a3b1171734ee62beb094092f3cd6738694656914b213863d1a28", func := "loop.example/g01203/laws.FnExactChecksum", spec := "fnExactChecksum", apart := false }
def FnExactChecksumSaid : Prop := fnExactChecksumRow.holds Try.pinned (OpenSpec.ofChange fnExactChecksumSpec)

/-- ITS FALSE NEIGHBOUR: 'it returns false'. Refute it at one input. -/
def fnExactChecksumWrong : ChangeSpec := { name := "fnExactChecksum", fn := fun _ => fun
  | [d] => { results := [.lit (.bool false)], args := [d] }
  | _ => none }
def FnExactChecksumWrongFalsely : Prop := fnExactChecksumRow.holds Try.pinned (OpenSpec.ofChange fnExactChecksumWrong)

/-- 'laws.FnExactIsCard': WHATEVER THE INPUT: true; the input reads as it did. -/
def fnExactIsCardSpec : ChangeSpec := { name := "fnExactIsCard", fn := fun _ => fun
  | [d] => { results := [.lit (.bool true)], args := [d] }
  | _ => none }
def fnExactIsCardRow : OpenClaim := { program := "ytfpnbcaleagijaa", sum := "a9a476aff853a3b1171734ee62beb094092f3cd6738694656914b213863d1a28", func := "loop.example/g01203/laws.FnExactIsCard", spec := "fnExactIsCard", unfollowed := true, recurses := true, apart := false }
def FnExactIsCardSaid : Prop := fnExactIsCardRow.holds Try.pinned (OpenSpec.ofChange fnExactIsCardSpec)

/-- ITS FALSE NEIGHBOUR: 'it returns false'. Refute it at one input. -/
def fnExactIsCardWrong : ChangeSpec := { name := "fnExactIsCard", fn := fun _ => fun
  | [d] => { results := [.lit (.bool false)], args := [d] }
  | _ => none }
def FnExactIsCardWrongFalsely : Prop := fnExactIsCardRow.holds Try.pinned (OpenSpec.ofChange fnExactIsCardWrong)

/-- 'laws.FnExactCardNumber': WHATEVER THE INPUT: true; the input reads as it did. -/
def fnExactCardNumberSpec : ChangeSpec := { name := "fnExactCardNumber", fn := fun _ => fun
  | [d] => { results := [.lit (.bool true)], args := [d] }
  | _ => none }
def fnExactCardNumberRow : OpenClaim := { program := "ytfpnbcaleagijaa", sum := "a9a476aff853a3b1171734ee62beb094092f3cd6738694656914b213863d1a28", func := "loop.example/g01203/laws.FnExactCardNumber", spec := "fnExactCardNumber", unfollowed := true, recurses := true, apart := false }
def FnExactCardNumberSaid : Prop := fnExactCardNumberRow.holds Try.pinned (OpenSpec.ofChange fnExactCardNumberSpec)

/-- ITS FALSE NEIGHBOUR: 'it returns false'. Refute it at one input. -/
def fnExactCardNumberWrong : ChangeSpec := { name := "fnExactCardNumber", fn := fun _ => fun
  | [d] => { results := [.lit (.bool false)], args := [d] }
  | _ => none }
def FnExactCardNumberWrongFalsely : Prop := fnExactCardNumberRow.holds Try.pinned (OpenSpec.ofChange fnExactCardNumberWrong)

/-- 'laws.FnExactJoinCaps': WHATEVER THE INPUT: true; the input reads as it did. -/
def fnExactJoinCapsSpec : ChangeSpec := { name := "fnExactJoinCaps", fn := fun _ => fun
  | [d1, d2] => { results := [.lit (.bool true)], args := [d1, d2] }
  | _ => none }
def fnExactJoinCapsRow : OpenClaim := { program := "ytfpnbcaleagijaa", sum := "a9a476aff853a3b1171734ee62beb094092f3cd6738694656914b213863d1a28", func := "loop.example/g01203/laws.FnExactJoinCaps", spec := "fnExactJoinCaps", unfollowed := true, recurses := true, apart := false }
def FnExactJoinCapsSaid : Prop := fnExactJoinCapsRow.holds Try.pinned (OpenSpec.ofChange fnExactJoinCapsSpec)

/-- ITS FALSE NEIGHBOUR: 'it returns false'. Refute it at one input. -/
def fnExactJoinCapsWrong : ChangeSpec := { name := "fnExactJoinCaps", fn := fun _ => fun
  | [d1, d2] => { results := [.lit (.bool false)], args := [d1, d2] }
  | _ => none }
def FnExactJoinCapsWrongFalsely : Prop := fnExactJoinCapsRow.holds Try.pinned (OpenSpec.ofChange fnExactJoinCapsWrong)

/-- 'laws.FnExactIsLine': WHATEVER THE INPUT: true; the input reads as it did. -/
def fnExactIsLineSpec : ChangeSpec := { name := "fnExactIsLine", fn := fun _ => fun
  | [d1, d2, d3] => { results := [.lit (.bool true)], args := [d1, d2, d3] }
  | _ => none }
def fnExactIsLineRow : OpenClaim := { program := "ytfpnbcaleagijaa", sum := "a9a476aff853a3b1171734ee62beb094092f3cd6738694656914b213863d1a28", func := "loop.example/g01203/laws.FnExactIsLine", spec := "fnExactIsLine", unfollowed := true, recurses := true, apart := false }
def FnExactIsLineSaid : Prop := fnExactIsLineRow.holds Try.pinned (OpenSpec.ofChange fnExactIsLineSpec)

/-- ITS FALSE NEIGHBOUR: 'it returns false'. Refute it at one input. -/
def fnExactIsLineWrong : ChangeSpec := { name := "fnExactIsLine", fn := fun _ => fun
  | [d1, d2, d3] => { results := [.lit (.bool false)], args := [d1, d2, d3] }
  | _ => none }
def FnExactIsLineWrongFalsely : Prop := fnExactIsLineRow.holds Try.pinned (OpenSpec.ofChange fnExactIsLineWrong)

/-- 'laws.FnExactDifferIn': WHATEVER THE INPUT: true; the input reads as it did. -/
def fnExactDifferInSpec : ChangeSpec := { name := "fnExactDifferIn", fn := fun _ => fun
  | [d1, d2] => { results := [.lit (.bool true)], args := [d1, d2] }
  | _ => none }
def fnExactDifferInRow : OpenClaim := { program := "ytfpnbcaleagijaa", sum := "a9a476aff853a3b1171734ee62beb094092f3cd6738694656914b213863d1a28", func := "loop.example/g01203/laws.FnExactDifferIn", spec := "fnExactDifferIn", unfollowed := true, recurses := true, apart := false }
def FnExactDifferInSaid : Prop := fnExactDifferInRow.holds Try.pinned (OpenSpec.ofChange fnExactDifferInSpec)

/-- ITS FALSE NEIGHBOUR: 'it returns false'. Refute it at one input. -/
def fnExactDifferInWrong : ChangeSpec := { name := "fnExactDifferIn", fn := fun _ => fun
  | [d1, d2] => { results := [.lit (.bool false)], args := [d1, d2] }
  | _ => none }
def FnExactDifferInWrongFalsely : Prop := fnExactDifferInRow.holds Try.pinned (OpenSpec.ofChange fnExactDifferInWrong)

/-- 'laws.FnExactThirdCard': WHATEVER THE INPUT: true; the input reads as it did. -/
def fnExactThirdCardSpec : ChangeSpec := { name := "fnExactThirdCard", fn := fun _ => fun
  | [d1, d2] => { results := [.lit (.bool true)], args := [d1, d2] }
  | _ => none }
def fnExactThirdCardRow : OpenClaim := { program := "ytfpnbcaleagijaa", sum := "a9a476aff853a3b1171734ee62beb094092f3cd6738694656914b213863d1a28", func := "loop.example/g01203/laws.FnExactThirdCard", spec := "fnExactThirdCard", unfollowed := true, recurses := true, apart := false }
def FnExactThirdCardSaid : Prop := fnExactThirdCardRow.holds Try.pinned (OpenSpec.ofChange fnExactThirdCardSpec)

/-- ITS FALSE NEIGHBOUR: 'it returns false'. Refute it at one input. -/
def fnExactThirdCardWrong : ChangeSpec := { name := "fnExactThirdCard", fn := fun _ => fun
  | [d1, d2] => { results := [.lit (.bool false)], args := [d1, d2] }
  | _ => none }
def FnExactThirdCardWrongFalsely : Prop := fnExactThirdCardRow.holds Try.pinned (OpenSpec.ofChange fnExactThirdCardWrong)

/-- 'laws.FnExactCardText': WHATEVER THE INPUT: true; the input reads as it did. -/
def fnExactCardTextSpec : ChangeSpec := { name := "fnExactCardText", fn := fun _ => fun
  | [d] => { results := [.lit (.bool true)], args := [d] }
  | _ => none }
def fnExactCardTextRow : OpenClaim := { program := "ytfpnbcaleagijaa", sum := "a9a476aff853a3b1171734ee62beb094092f3cd6738694656914b213863d1a28", func := "loop.example/g01203/laws.FnExactCardText", spec := "fnExactCardText", unfollowed := true, recurses := true, apart := false }
def FnExactCardTextSaid : Prop := fnExactCardTextRow.holds Try.pinned (OpenSpec.ofChange fnExactCardTextSpec)

/-- ITS FALSE NEIGHBOUR: 'it returns false'. Refute it at one input. -/
def fnExactCardTextWrong : ChangeSpec := { name := "fnExactCardText", fn := fun _ => fun
  | [d] => { results := [.lit (.bool false)], args := [d] }
  | _ => none }
def FnExactCardTextWrongFalsely : Prop := fnExactCardTextRow.holds Try.pinned (OpenSpec.ofChange fnExactCardTextWrong)

/- THE SECOND FORM. 'bulk': how many values and letters a reading holds, each counted each time it is reached (what is shared counts as often as it is met; a slice's spare places count too). A statement '..UptoSaid' is the law's where the arguments, and the package variables that the reading takes, are together of bulk at most 1048576: NARROWER than '..Said'. Prove '..Said' where nothing that the law and all that it calls make is longer than what came in: it says more and counts as full. Else prove '..UptoSaid'. A law counts once. -/
mutual
def uptoBulk {H : Type} : DataW H → Nat
  | .lit (.string bytes) => bytes.length + 1
  | .lit _ => 1
  | .nil => 1
  | .ptr d => uptoBulk d + 1
  | .slice elems spare => uptoBulkAll elems + uptoBulkAll spare + 1
  | .agg parts => uptoBulkAll parts + 1
  | .iface _ d => uptoBulk d + 1
  | .map entries => uptoBulkEntries entries + 1
  | .held _ => 1
def uptoBulkAll {H : Type} : List (DataW H) → Nat
  | [] => 0
  | d :: r => uptoBulk d + uptoBulkAll r
def uptoBulkEntries {H : Type} : List (Lit × DataW H) → Nat
  | [] => 0
  | x :: r => uptoBulkEntry x + uptoBulkEntries r
def uptoBulkEntry {H : Type} : Lit × DataW H → Nat
  | (.string bytes, d) => bytes.length + uptoBulk d + 1
  | (_, d) => uptoBulk d + 1
 end
def uptoSmall : (H : Type) → List (DataW H) → Bool := fun _ ds => decide (uptoBulkAll ds ≤ 1048576)
def OpenSpec.upto (s : _root_.Go.ChangeSpec) : _root_.Go.OpenSpec := { _root_.Go.OpenSpec.ofChange s with cond := some uptoSmall }

/-- 'laws.FnExactConstants', WHERE WHAT IT READS IS OF BULK AT MOST 1048576: true; the input reads as it did. -/
def fnExactConstantsUptoRow : OpenClaim := { program := "ytfpnbcaleagijaa", sum := "a9a476aff853a3b1171734ee62beb094092f3cd6738694656914b213863d1a28", func := "loop.example/g01203/laws.FnExactConstants", spec := "fnExactConstants", apart := false, narrowed := true }
def FnExactConstantsUptoSaid : Prop := fnExactConstantsUptoRow.holds Try.pinned (OpenSpec.upto fnExactConstantsSpec)

/-- 'laws.FnExactLessString', WHERE WHAT IT READS IS OF BULK AT MOST 1048576: true; the input reads as it did. -/
def fnExactLessStringUptoRow : OpenClaim := { program := "ytfpnbcaleagijaa", sum := "a9a476aff853a3b1171734ee62beb094092f3cd6738694656914b213863d1a28", func := "loop.example/g01203/laws.FnExactLessString", spec := "fnExactLessString", apart := false, narrowed := true }
def FnExactLessStringUptoSaid : Prop := fnExactLessStringUptoRow.holds Try.pinned (OpenSpec.upto fnExactLessStringSpec)

/-- 'laws.FnExactNextSeed', WHERE WHAT IT READS IS OF BULK AT MOST 1048576: true; the input reads as it did. -/
def fnExactNextSeedUptoRow : OpenClaim := { program := "ytfpnbcaleagijaa", sum := "a9a476aff853a3b1171734ee62beb094092f3cd6738694656914b213863d1a28", func := "loop.example/g01203/laws.FnExactNextSeed", spec := "fnExactNextSeed", apart := false, narrowed := true }
def FnExactNextSeedUptoSaid : Prop := fnExactNextSeedUptoRow.holds Try.pinned (OpenSpec.upto fnExactNextSeedSpec)

/-- 'laws.FnExactCardAt', WHERE WHAT IT READS IS OF BULK AT MOST 1048576: true; the input reads as it did. -/
def fnExactCardAtUptoRow : OpenClaim := { program := "ytfpnbcaleagijaa", sum := "a9a476aff853a3b1171734ee62beb094092f3cd6738694656914b213863d1a28", func := "loop.example/g01203/laws.FnExactCardAt", spec := "fnExactCardAt", apart := false, narrowed := true }
def FnExactCardAtUptoSaid : Prop := fnExactCardAtUptoRow.holds Try.pinned (OpenSpec.upto fnExactCardAtSpec)

/-- 'laws.FnExactChecksum', WHERE WHAT IT READS IS OF BULK AT MOST 1048576: true; the input reads as it did. -/
def fnExactChecksumUptoRow : OpenClaim := { program := "ytfpnbcaleagijaa", sum := "a9a476aff853a3b1171734ee62beb094092f3cd6738694656914b213863d1a28", func := "loop.example/g01203/laws.FnExactChecksum", spec := "fnExactChecksum", apart := false, narrowed := true }
def FnExactChecksumUptoSaid : Prop := fnExactChecksumUptoRow.holds Try.pinned (OpenSpec.upto fnExactChecksumSpec)

/-- 'laws.FnExactIsCard', WHERE WHAT IT READS IS OF BULK AT MOST 1048576: true; the input reads as it did. -/
def fnExactIsCardUptoRow : OpenClaim := { program := "ytfpnbcaleagijaa", sum := "a9a476aff853a3b1171734ee62beb094092f3cd6738694656914b213863d1a28", func := "loop.example/g01203/laws.FnExactIsCard", spec := "fnExactIsCard", unfollowed := true, recurses := true, apart := false, narrowed := true }
def FnExactIsCardUptoSaid : Prop := fnExactIsCardUptoRow.holds Try.pinned (OpenSpec.upto fnExactIsCardSpec)

/-- 'laws.FnExactCardNumber', WHERE WHAT IT READS IS OF BULK AT MOST 1048576: true; the input reads as it did. -/
def fnExactCardNumberUptoRow : OpenClaim := { program := "ytfpnbcaleagijaa", sum := "a9a476aff853a3b1171734ee62beb094092f3cd6738694656914b213863d1a28", func := "loop.example/g01203/laws.FnExactCardNumber", spec := "fnExactCardNumber", unfollowed := true, recurses := true, apart := false, narrowed := true }
def FnExactCardNumberUptoSaid : Prop := fnExactCardNumberUptoRow.holds Try.pinned (OpenSpec.upto fnExactCardNumberSpec)

/-- 'laws.FnExactJoinCaps', WHERE WHAT IT READS IS OF BULK AT MOST 1048576: true; the input reads as it did. -/
def fnExactJoinCapsUptoRow : OpenClaim := { program := "ytfpnbcaleagijaa", sum := "a9a476aff853a3b1171734ee62beb094092f3cd6738694656914b213863d1a28", func := "loop.example/g01203/laws.FnExactJoinCaps", spec := "fnExactJoinCaps", unfollowed := true, recurses := true, apart := false, narrowed := true }
def FnExactJoinCapsUptoSaid : Prop := fnExactJoinCapsUptoRow.holds Try.pinned (OpenSpec.upto fnExactJoinCapsSpec)

/-- 'laws.FnExactIsLine', WHERE WHAT IT READS IS OF BULK AT MOST 1048576: true; the input reads as it did. -/
def fnExactIsLineUptoRow : OpenClaim := { program := "ytfpnbcaleagijaa", sum := "a9a476aff853a3b1171734ee62beb094092f3cd6738694656914b213863d1a28", func := "loop.example/g01203/laws.FnExactIsLine", spec := "fnExactIsLine", unfollowed := true, recurses := true, apart := false, narrowed := true }
def FnExactIsLineUptoSaid : Prop := fnExactIsLineUptoRow.holds Try.pinned (OpenSpec.upto fnExactIsLineSpec)

/-- 'laws.FnExactDifferIn', WHERE WHAT IT READS IS OF BULK AT MOST 1048576: true; the input reads as it did. -/
def fnExactDifferInUptoRow : OpenClaim := { program := "ytfpnbcaleagijaa", sum := "a9a476aff853a3b1171734ee62beb094092f3cd6738694656914b213863d1a28", func := "loop.example/g01203/laws.FnExactDifferIn", spec := "fnExactDifferIn", unfollowed := true, recurses := true, apart := false, narrowed := true }
def FnExactDifferInUptoSaid : Prop := fnExactDifferInUptoRow.holds Try.pinned (OpenSpec.upto fnExactDifferInSpec)

/-- 'laws.FnExactThirdCard', WHERE WHAT IT READS IS OF BULK AT MOST 1048576: true; the input reads as it did. -/
def fnExactThirdCardUptoRow : OpenClaim := { program := "ytfpnbcaleagijaa", sum := "a9a476aff853a3b1171734ee62beb094092f3cd6738694656914b213863d1a28", func := "loop.example/g01203/laws.FnExactThirdCard", spec := "fnExactThirdCard", unfollowed := true, recurses := true, apart := false, narrowed := true }
def FnExactThirdCardUptoSaid : Prop := fnExactThirdCardUptoRow.holds Try.pinned (OpenSpec.upto fnExactThirdCardSpec)

/-- 'laws.FnExactCardText', WHERE WHAT IT READS IS OF BULK AT MOST 1048576: true; the input reads as it did. -/
def fnExactCardTextUptoRow : OpenClaim := { program := "ytfpnbcaleagijaa", sum := "a9a476aff853a3b1171734ee62beb094092f3cd6738694656914b213863d1a28", func := "loop.example/g01203/laws.FnExactCardText", spec := "fnExactCardText", unfollowed := true, recurses := true, apart := false, narrowed := true }
def FnExactCardTextUptoSaid : Prop := fnExactCardTextUptoRow.holds Try.pinned (OpenSpec.upto fnExactCardTextSpec)

end Rows
end Go.Proofs.Ytfpnbcaleagijaa
