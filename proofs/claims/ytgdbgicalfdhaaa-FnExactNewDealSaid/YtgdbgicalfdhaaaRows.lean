/-
  No cell of these rows narrows 'for every input' (looked for: loops, veiled, ifaces, maps, wideKeys, modest, calm, conditions, laid).
  DERIVED. THE GIVEN ROWS OF THIS SEAT. 12 by the template 'for every input the law returns true; each argument reads behind the call as it read before'; 0 by the template 'total and deterministic' (their statements: YtgdbgicalfdhaaaTotals.lean).
  GIVEN WITH THE SEED: the statements are not yours to turn. If you find one false, say at which input.
  Laid BY PROGRAM, IN A SANDBOX (cutbox-rows.mjs): the forced cells as the released guide's own fill.sh prints them over the translation 2553984341406941… (all of the seat's roots in one cut). By AI agents, Wed Nov 11 2026. No macro, syntax, notation, axiom, sorry.
-/
import Derived.Test.YtgdbgicalfdhaaaChecked
import GoSem.Claim
import GoSem.ClaimJoined
import GoSem.ClaimMapViews
import Derived.JoinedTies
import Derived.KernelRfl
namespace Go.Proofs.Ytgdbgicalfdhaaa
/- THE CELL 'sum', in the pinned program and in every row, IS THE sha256 OF THE DUMP (.gsa) THAT YtgdbgicalfdhaaaProg.lean LOADS. Nothing in Lean hashes anything: it is a label: what it is worth is what the hold of that sum in a sandbox is worth. -/
noncomputable def Try.pinned : Pinned := { name := "ytgdbgicalfdhaaa", sum := "2553984341406941b7680f9140e9838189612d46af88d107f33399b73d4ecbee", checked := Try.checked }
namespace Rows
def none {H : Type} : Left H := { results := [], args := [] }

/-- 'laws.FnExactLineKind': WHATEVER THE INPUT: true; the input reads as it did. -/
def fnExactLineKindSpec : ChangeSpec := { name := "fnExactLineKind", fn := fun _ => fun
  | [d1, d2, d3] => { results := [.lit (.bool true)], args := [d1, d2, d3] }
  | _ => none }
def fnExactLineKindRow : OpenClaim := { program := "ytgdbgicalfdhaaa", sum := "2553984341406941b7680f9140e9838189612d46af88d107f33399b73d4ecbee", func := "loop.example/g01203/laws.FnExactLineKind", spec := "fnExactLineKind", unfollowed := true, recurses := true, apart := false }
def FnExactLineKindSaid : Prop := fnExactLineKindRow.holds Try.pinned (OpenSpec.ofChange fnExactLineKindSpec)

/-- ITS FALSE NEIGHBOUR: 'it returns false'. Refute it at one input. -/
def fnExactLineKindWrong : ChangeSpec := { name := "fnExactLineKind", fn := fun _ => fun
  | [d1, d2, d3] => { results := [.lit (.bool false)], args := [d1, d2, d3] }
  | _ => none }
def FnExactLineKindWrongFalsely : Prop := fnExactLineKindRow.holds Try.pinned (OpenSpec.ofChange fnExactLineKindWrong)

/-- 'laws.FnExactPileOf': WHATEVER THE INPUT: true; the input reads as it did. -/
def fnExactPileOfSpec : ChangeSpec := { name := "fnExactPileOf", fn := fun _ => fun
  | [d] => { results := [.lit (.bool true)], args := [d] }
  | _ => none }
def fnExactPileOfRow : OpenClaim := { program := "ytgdbgicalfdhaaa", sum := "2553984341406941b7680f9140e9838189612d46af88d107f33399b73d4ecbee", func := "loop.example/g01203/laws.FnExactPileOf", spec := "fnExactPileOf", apart := false }
def FnExactPileOfSaid : Prop := fnExactPileOfRow.holds Try.pinned (OpenSpec.ofChange fnExactPileOfSpec)

/-- ITS FALSE NEIGHBOUR: 'it returns false'. Refute it at one input. -/
def fnExactPileOfWrong : ChangeSpec := { name := "fnExactPileOf", fn := fun _ => fun
  | [d] => { results := [.lit (.bool false)], args := [d] }
  | _ => none }
def FnExactPileOfWrongFalsely : Prop := fnExactPileOfRow.holds Try.pinned (OpenSpec.ofChange fnExactPileOfWrong)

/-- 'laws.FnExactFillCap': WHATEVER THE INPUT: true; the input reads as it did. -/
def fnExactFillCapSpec : ChangeSpec := { name := "fnExactFillCap", fn := fun _ => fun
  | [d] => { results := [.lit (.bool true)], args := [d] }
  | _ => none }
def fnExactFillCapRow : OpenClaim := { program := "ytgdbgicalfdhaaa", sum := "2553984341406941b7680f9140e9838189612d46af88d107f33399b73d4ecbee", func := "loop.example/g01203/laws.FnExactFillCap", spec := "fnExactFillCap", unfollowed := true, recurses := true, apart := false }
def FnExactFillCapSaid : Prop := fnExactFillCapRow.holds Try.pinned (OpenSpec.ofChange fnExactFillCapSpec)

/-- ITS FALSE NEIGHBOUR: 'it returns false'. Refute it at one input. -/
def fnExactFillCapWrong : ChangeSpec := { name := "fnExactFillCap", fn := fun _ => fun
  | [d] => { results := [.lit (.bool false)], args := [d] }
  | _ => none }
def FnExactFillCapWrongFalsely : Prop := fnExactFillCapRow.holds Try.pinned (OpenSpec.ofChange fnExactFillCapWrong)

/-- 'laws.FnExactIsHand': WHATEVER THE INPUT: true; the input reads as it did. -/
def fnExactIsHandSpec : ChangeSpec := { name := "fnExactIsHand", fn := fun _ => fun
  | [d] => { results := [.lit (.bool true)], args := [d] }
  | _ => none }
def fnExactIsHandRow : OpenClaim := { program := "ytgdbgicalfdhaaa", sum := "2553984341406941b7680f9140e9838189612d46af88d107f33399b73d4ecbee", func := "loop.example/g01203/laws.FnExactIsHand", spec := "fnExactIsHand", unfollowed := true, recurses := true, apart := false }
def FnExactIsHandSaid : Prop := fnExactIsHandRow.holds Try.pinned (OpenSpec.ofChange fnExactIsHandSpec)

/-- ITS FALSE NEIGHBOUR: 'it returns false'. Refute it at one input. -/
def fnExactIsHandWrong : ChangeSpec := { name := "fnExactIsHand", fn := fun _ => fun
  | [d] => { results := [.lit (.bool false)], args := [d] }
  | _ => none }
def FnExactIsHandWrongFalsely : Prop := fnExactIsHandRow.holds Try.pinned (OpenSpec.ofChange fnExactIsHandWrong)

/-- 'laws.FnExactShiftTo': WHATEVER THE INPUT: true; the input reads as it did. -/
def fnExactShiftToSpec : ChangeSpec := { name := "fnExactShiftTo", fn := fun _ => fun
  | [d1, d2] => { results := [.lit (.bool true)], args := [d1, d2] }
  | _ => none }
def fnExactShiftToRow : OpenClaim := { program := "ytgdbgicalfdhaaa", sum := "2553984341406941b7680f9140e9838189612d46af88d107f33399b73d4ecbee", func := "loop.example/g01203/laws.FnExactShiftTo", spec := "fnExactShiftTo", unfollowed := true, recurses := true, apart := false }
def FnExactShiftToSaid : Prop := fnExactShiftToRow.holds Try.pinned (OpenSpec.ofChange fnExactShiftToSpec)

/-- ITS FALSE NEIGHBOUR: 'it returns false'. Refute it at one input. -/
def fnExactShiftToWrong : ChangeSpec := { name := "fnExactShiftTo", fn := fun _ => fun
  | [d1, d2] => { results := [.lit (.bool false)], args := [d1, d2] }
  | _ => none }
def FnExactShiftToWrongFalsely : Prop := fnExactShiftToRow.holds Try.pinned (OpenSpec.ofChange fnExactShiftToWrong)

/-- 'laws.FnExactCardPlace': WHATEVER THE INPUT: true; the input reads as it did. -/
def fnExactCardPlaceSpec : ChangeSpec := { name := "fnExactCardPlace", fn := fun _ => fun
  | [d1, d2] => { results := [.lit (.bool true)], args := [d1, d2] }
  | _ => none }
def fnExactCardPlaceRow : OpenClaim := { program := "ytgdbgicalfdhaaa", sum := "2553984341406941b7680f9140e9838189612d46af88d107f33399b73d4ecbee", func := "loop.example/g01203/laws.FnExactCardPlace", spec := "fnExactCardPlace", unfollowed := true, recurses := true, apart := false }
def FnExactCardPlaceSaid : Prop := fnExactCardPlaceRow.holds Try.pinned (OpenSpec.ofChange fnExactCardPlaceSpec)

/-- ITS FALSE NEIGHBOUR: 'it returns false'. Refute it at one input. -/
def fnExactCardPlaceWrong : ChangeSpec := { name := "fnExactCardPlace", fn := fun _ => fun
  | [d1, d2] => { results := [.lit (.bool false)], args := [d1, d2] }
  | _ => none }
def FnExactCardPlaceWrongFalsely : Prop := fnExactCardPlaceRow.holds Try.pinned (OpenSpec.ofChange fnExactCardPlaceWrong)

/-- 'laws.FnExactNewDeal': WHATEVER THE INPUT: true; the input reads as it did. -/
def fnExactNewDealSpec : ChangeSpec := { name := "fnExactNewDeal", fn := fun _ => fun
  | [d] => { results := [.lit (.bool true)], args := [d] }
  | _ => none }
def fnExactNewDealRow : OpenClaim := { program := "ytgdbgicalfdhaaa", sum := "2553984341406941b7680f9140e9838189612d46af88d107f33399b73d4ecbee", func := "loop.example/g01203/laws.FnExactNewDeal", spec := "fnExactNewDeal", apart := false }
def FnExactNewDealSaid : Prop := fnExactNewDealRow.holds Try.pinned (OpenSpec.ofChange fnExactNewDealSpec)

/-- ITS FALSE NEIGHBOUR: 'it returns false'. Refute it at one input. -/
def fnExactNewDealWrong : ChangeSpec := { name := "fnExactNewDeal", fn := fun _ => fun
  | [d] => { results := [.lit (.bool false)], args := [d] }
  | _ => none }
def FnExactNewDealWrongFalsely : Prop := fnExactNewDealRow.holds Try.pinned (OpenSpec.ofChange fnExactNewDealWrong)

/-- 'laws.FnExactSumCards': WHATEVER THE INPUT: true; the input reads as it did. -/
def fnExactSumCardsSpec : ChangeSpec := { name := "fnExactSumCards", fn := fun _ => fun
  | [d] => { results := [.lit (.bool true)], args := [d] }
  | _ => none }
def fnExactSumCardsRow : OpenClaim := { program := "ytgdbgicalfdhaaa", sum := "2553984341406941b7680f9140e9838189612d46af88d107f33399b73d4ecbee", func := "loop.example/g01203/laws.FnExactSumCards", spec := "fnExactSumCards", unfollowed := true, recurses := true, apart := false }
def FnExactSumCardsSaid : Prop := fnExactSumCardsRow.holds Try.pinned (OpenSpec.ofChange fnExactSumCardsSpec)

/-- ITS FALSE NEIGHBOUR: 'it returns false'. Refute it at one input. -/
def fnExactSumCardsWrong : ChangeSpec := { name := "fnExactSumCards", fn := fun _ => fun
  | [d] => { results := [.lit (.bool false)], args := [d] }
  | _ => none }
def FnExactSumCardsWrongFalsely : Prop := fnExactSumCardsRow.holds Try.pinned (OpenSpec.ofChange fnExactSumCardsWrong)

/-- 'laws.FnExactLinesThrough': WHATEVER THE INPUT: true; the input reads as it did. -/
def fnExactLinesThroughSpec : ChangeSpec := { name := "fnExactLinesThrough", fn := fun _ => fun
  | [d1, d2] => { results := [.lit (.bool true)], args := [d1, d2] }
  | _ => none }
def fnExactLinesThroughRow : OpenClaim := { program := "ytgdbgicalfdhaaa", sum := "2553984341406941b7680f9140e9838189612d46af88d107f33399b73d4ecbee", func := "loop.example/g01203/laws.FnExactLinesThrough", spec := "fnExactLinesThrough", unfollowed := true, recurses := true, apart := false }
def FnExactLinesThroughSaid : Prop := fnExactLinesThroughRow.holds Try.pinned (OpenSpec.ofChange fnExactLinesThroughSpec)

/-- ITS FALSE NEIGHBOUR: 'it returns false'. Refute it at one input. -/
def fnExactLinesThroughWrong : ChangeSpec := { name := "fnExactLinesThrough", fn := fun _ => fun
  | [d1, d2] => { results := [.lit (.bool false)], args := [d1, d2] }
  | _ => none }
def FnExactLinesThroughWrongFalsely : Prop := fnExactLinesThroughRow.holds Try.pinned (OpenSpec.ofChange fnExactLinesThroughWrong)

/-- 'laws.FnExactIsDeal': WHATEVER THE INPUT: true; the input reads as it did. -/
def fnExactIsDealSpec : ChangeSpec := { name := "fnExactIsDeal", fn := fun _ => fun
  | [d] => { results := [.lit (.bool true)], args := [d] }
  | _ => none }
def fnExactIsDealRow : OpenClaim := { program := "ytgdbgicalfdhaaa", sum := "2553984341406941b7680f9140e9838189612d46af88d107f33399b73d4ecbee", func := "loop.example/g01203/laws.FnExactIsDeal", spec := "fnExactIsDeal", apart := false }
def FnExactIsDealSaid : Prop := fnExactIsDealRow.holds Try.pinned (OpenSpec.ofChange fnExactIsDealSpec)

/-- ITS FALSE NEIGHBOUR: 'it returns false'. Refute it at one input. -/
def fnExactIsDealWrong : ChangeSpec := { name := "fnExactIsDeal", fn := fun _ => fun
  | [d] => { results := [.lit (.bool false)], args := [d] }
  | _ => none }
def FnExactIsDealWrongFalsely : Prop := fnExactIsDealRow.holds Try.pinned (OpenSpec.ofChange fnExactIsDealWrong)

/-- 'laws.FnExactPlayDeal': WHATEVER THE INPUT: true; the input reads as it did. -/
def fnExactPlayDealSpec : ChangeSpec := { name := "fnExactPlayDeal", fn := fun _ => fun
  | [d] => { results := [.lit (.bool true)], args := [d] }
  | _ => none }
def fnExactPlayDealRow : OpenClaim := { program := "ytgdbgicalfdhaaa", sum := "2553984341406941b7680f9140e9838189612d46af88d107f33399b73d4ecbee", func := "loop.example/g01203/laws.FnExactPlayDeal", spec := "fnExactPlayDeal", unfollowed := true, recurses := true, apart := false }
def FnExactPlayDealSaid : Prop := fnExactPlayDealRow.holds Try.pinned (OpenSpec.ofChange fnExactPlayDealSpec)

/-- ITS FALSE NEIGHBOUR: 'it returns false'. Refute it at one input. -/
def fnExactPlayDealWrong : ChangeSpec := { name := "fnExactPlayDeal", fn := fun _ => fun
  | [d] => { results := [.lit (.bool false)], args := [d] }
  | _ => none }
def FnExactPlayDealWrongFalsely : Prop := fnExactPlayDealRow.holds Try.pinned (OpenSpec.ofChange fnExactPlayDealWrong)

/-- 'laws.FnExactWithTrait': WHATEVER THE INPUT: true; the input reads as it did. -/
def fnExactWithTraitSpec : ChangeSpec := { name := "fnExactWithTrait", fn := fun _ => fun
  | [d1, d2, d3] => { results := [.lit (.bool true)], args := [d1, d2, d3] }
  | _ => none }
def fnExactWithTraitRow : OpenClaim := { program := "ytgdbgicalfdhaaa", sum := "2553984341406941b7680f9140e9838189612d46af88d107f33399b73d4ecbee", func := "loop.example/g01203/laws.FnExactWithTrait", spec := "fnExactWithTrait", unfollowed := true, recurses := true, apart := false }
def FnExactWithTraitSaid : Prop := fnExactWithTraitRow.holds Try.pinned (OpenSpec.ofChange fnExactWithTraitSpec)

/-- ITS FALSE NEIGHBOUR: 'it returns false'. Refute it at one input. -/
def fnExactWithTraitWrong : ChangeSpec := { name := "fnExactWithTrait", fn := fun _ => fun
  | [d1, d2, d3] => { results := [.lit (.bool false)], args := [d1, d2, d3] }
  | _ => none }
def FnExactWithTraitWrongFalsely : Prop := fnExactWithTraitRow.holds Try.pinned (OpenSpec.ofChange fnExactWithTraitWrong)

/- THE SECOND FORM. 'bulk': how many values and letters a reading holds, each counted each time it is reached (what is shared counts as often as it is met; a slice's spare places count too). A statement '..UptoSaid' is the law's where the arguments, and the package variables that the reading takes, are together of bulk at most 1048576: NARROWER than '..Said'. Prove '..Said' where nothing that the law and all that it calls make is longer than what came in: it says more and counts as full. Else prove '..UptoSaid'. A law counts once. -/
mutual
def uptoBulk {H : Type} : DataW H → Nat
  | .lit (.string bytes) => bytes.length + 1
  | .lit _ => 1
  | .nil => 1
  | .ptr d => uptoBulk d + 1
  | .slice elems spare => uptoBulkAll elems + uptoBulkAll spare + 1
  | .agg parts => uptoBulkAll parts + 1
  | .iface _ d => uptoBulk d + 1
  | .map entries => uptoBulkEntries entries + 1
  | .held _ => 1
def uptoBulkAll {H : Type} : List (DataW H) → Nat
  | [] => 0
  | d :: r => uptoBulk d + uptoBulkAll r
def uptoBulkEntries {H : Type} : List (Lit × DataW H) → Nat
  | [] => 0
  | x :: r => uptoBulkEntry x + uptoBulkEntries r
def uptoBulkEntry {H : Type} : Lit × DataW H → Nat
  | (.string bytes, d) => bytes.length + uptoBulk d + 1
  | (_, d) => uptoBulk d + 1
 end
def uptoSmall : (H : Type) → List (DataW H) → Bool := fun _ ds => decide (uptoBulkAll ds ≤ 1048576)
def OpenSpec.upto (s : _root_.Go.ChangeSpec) : _root_.Go.OpenSpec := { _root_.Go.OpenSpec.ofChange s with cond := some uptoSmall }

/-- 'laws.FnExactLineKind', WHERE WHAT IT READS IS OF BULK AT MOST 1048576: true; the input reads as it did. -/
def fnExactLineKindUptoRow : OpenClaim := { program := "ytgdbgicalfdhaaa", sum := "2553984341406941b7680f9140e9838189612d46af88d107f33399b73d4ecbee", func := "loop.example/g01203/laws.FnExactLineKind", spec := "fnExactLineKind", unfollowed := true, recurses := true, apart := false, narrowed := true }
def FnExactLineKindUptoSaid : Prop := fnExactLineKindUptoRow.holds Try.pinned (OpenSpec.upto fnExactLineKindSpec)

/-- 'laws.FnExactPileOf', WHERE WHAT IT READS IS OF BULK AT MOST 1048576: true; the input reads as it did. -/
def fnExactPileOfUptoRow : OpenClaim := { program := "ytgdbgicalfdhaaa", sum := "2553984341406941b7680f9140e9838189612d46af88d107f33399b73d4ecbee", func := "loop.example/g01203/laws.FnExactPileOf", spec := "fnExactPileOf", apart := false, narrowed := true }
def FnExactPileOfUptoSaid : Prop := fnExactPileOfUptoRow.holds Try.pinned (OpenSpec.upto fnExactPileOfSpec)

/-- 'laws.FnExactFillCap', WHERE WHAT IT READS IS OF BULK AT MOST 1048576: true; the input reads as it did. -/
def fnExactFillCapUptoRow : OpenClaim := { program := "ytgdbgicalfdhaaa", sum := "2553984341406941b7680f9140e9838189612d46af88d107f33399b73d4ecbee", func := "loop.example/g01203/laws.FnExactFillCap", spec := "fnExactFillCap", unfollowed := true, recurses := true, apart := false, narrowed := true }
def FnExactFillCapUptoSaid : Prop := fnExactFillCapUptoRow.holds Try.pinned (OpenSpec.upto fnExactFillCapSpec)

/-- 'laws.FnExactIsHand', WHERE WHAT IT READS IS OF BULK AT MOST 1048576: true; the input reads as it did. -/
def fnExactIsHandUptoRow : OpenClaim := { program := "ytgdbgicalfdhaaa", sum := "2553984341406941b7680f9140e9838189612d46af88d107f33399b73d4ecbee", func := "loop.example/g01203/laws.FnExactIsHand", spec := "fnExactIsHand", unfollowed := true, recurses := true, apart := false, narrowed := true }
def FnExactIsHandUptoSaid : Prop := fnExactIsHandUptoRow.holds Try.pinned (OpenSpec.upto fnExactIsHandSpec)

/-- 'laws.FnExactShiftTo', WHERE WHAT IT READS IS OF BULK AT MOST 1048576: true; the input reads as it did. -/
def fnExactShiftToUptoRow : OpenClaim := { program := "ytgdbgicalfdhaaa", sum := "2553984341406941b7680f9140e9838189612d46af88d107f33399b73d4ecbee", func := "loop.example/g01203/laws.FnExactShiftTo", spec := "fnExactShiftTo", unfollowed := true, recurses := true, apart := false, narrowed := true }
def FnExactShiftToUptoSaid : Prop := fnExactShiftToUptoRow.holds Try.pinned (OpenSpec.upto fnExactShiftToSpec)

/-- 'laws.FnExactCardPlace', WHERE WHAT IT READS IS OF BULK AT MOST 1048576: true; the input reads as it did. -/
def fnExactCardPlaceUptoRow : OpenClaim := { program := "ytgdbgicalfdhaaa", sum := "2553984341406941b7680f9140e9838189612d46af88d107f33399b73d4ecbee", func := "loop.example/g01203/laws.FnExactCardPlace", spec := "fnExactCardPlace", unfollowed := true, recurses := true, apart := false, narrowed := true }
def FnExactCardPlaceUptoSaid : Prop := fnExactCardPlaceUptoRow.holds Try.pinned (OpenSpec.upto fnExactCardPlaceSpec)

/-- 'laws.FnExactNewDeal', WHERE WHAT IT READS IS OF BULK AT MOST 1048576: true; the input reads as it did. -/
def fnExactNewDealUptoRow : OpenClaim := { program := "ytgdbgicalfdhaaa", sum := "2553984341406941b7680f9140e9838189612d46af88d107f33399b73d4ecbee", func := "loop.example/g01203/laws.FnExactNewDeal", spec := "fnExactNewDeal", apart := false, narrowed := true }
def FnExactNewDealUptoSaid : Prop := fnExactNewDealUptoRow.holds Try.pinned (OpenSpec.upto fnExactNewDealSpec)

/-- 'laws.FnExactSumCards', WHERE WHAT IT READS IS OF BULK AT MOST 1048576: true; the input reads as it did. -/
def fnExactSumCardsUptoRow : OpenClaim := { program := "ytgdbgicalfdhaaa", sum := "2553984341406941b7680f9140e9838189612d46af88d107f33399b73d4ecbee", func := "loop.example/g01203/laws.FnExactSumCards", spec := "fnExactSumCards", unfollowed := true, recurses := true, apart := false, narrowed := true }
def FnExactSumCardsUptoSaid : Prop := fnExactSumCardsUptoRow.holds Try.pinned (OpenSpec.upto fnExactSumCardsSpec)

/-- 'laws.FnExactLinesThrough', WHERE WHAT IT READS IS OF BULK AT MOST 1048576: true; the input reads as it did. -/
def fnExactLinesThroughUptoRow : OpenClaim := { program := "ytgdbgicalfdhaaa", sum := "2553984341406941b7680f9140e9838189612d46af88d107f33399b73d4ecbee", func := "loop.example/g01203/laws.FnExactLinesThrough", spec := "fnExactLinesThrough", unfollowed := true, recurses := true, apart := false, narrowed := true }
def FnExactLinesThroughUptoSaid : Prop := fnExactLinesThroughUptoRow.holds Try.pinned (OpenSpec.upto fnExactLinesThroughSpec)

/-- 'laws.FnExactIsDeal', WHERE WHAT IT READS IS OF BULK AT MOST 1048576: true; the input reads as it did. -/
def fnExactIsDealUptoRow : OpenClaim := { program := "ytgdbgicalfdhaaa", sum := "2553984341406941b7680f9140e9838189612d46af88d107f33399b73d4ecbee", func := "loop.example/g01203/laws.FnExactIsDeal", spec := "fnExactIsDeal", apart := false, narrowed := true }
def FnExactIsDealUptoSaid : Prop := fnExactIsDealUptoRow.holds Try.pinned (OpenSpec.upto fnExactIsDealSpec)

/-- 'laws.FnExactPlayDeal', WHERE WHAT IT READS IS OF BULK AT MOST 1048576: true; the input reads as it did. -/
def fnExactPlayDealUptoRow : OpenClaim := { program := "ytgdbgicalfdhaaa", sum := "2553984341406941b7680f9140e9838189612d46af88d107f33399b73d4ecbee", func := "loop.example/g01203/laws.FnExactPlayDeal", spec := "fnExactPlayDeal", unfollowed := true, recurses := true, apart := false, narrowed := true }
def FnExactPlayDealUptoSaid : Prop := fnExactPlayDealUptoRow.holds Try.pinned (OpenSpec.upto fnExactPlayDealSpec)

/-- 'laws.FnExactWithTrait', WHERE WHAT IT READS IS OF BULK AT MOST 1048576: true; the input reads as it did. -/
def fnExactWithTraitUptoRow : OpenClaim := { program := "ytgdbgicalfdhaaa", sum := "2553984341406941b7680f9140e9838189612d46af88d107f33399b73d4ecbee", func := "loop.example/g01203/laws.FnExactWithTrait", spec := "fnExactWithTrait", unfollowed := true, recurses := true, apart := false, narrowed := true }
def FnExactWithTraitUptoSaid : Prop := fnExactWithTraitUptoRow.holds Try.pinned (OpenSpec.upto fnExactWithTraitSpec)

end Rows
end Go.Proofs.Ytgdbgicalfdhaaa
