/-
  No cell of these rows narrows 'for every input' (looked for: loops, veiled, ifaces, maps, wideKeys, modest, calm, conditions, laid).
  DERIVED. THE GIVEN ROWS OF THIS SEAT. 14 by the template 'for every input the law returns true; each argument reads behind the call as it read before'; 0 by the template 'total and deterministic' (their statements: YtdnnjhgkcchcaaaTotals.lean).
  GIVEN WITH THE SEED: the statements are not yours to turn. If you find one false, say at which input.
  Laid BY PROGRAM, IN A SANDBOX (cutbox-rows.mjs): the forced cells as the released guide's own fill.sh prints them over the translation 718cb1aff94e06f9… (all of the seat's roots in one cut). By AI agents, Wed Nov 11 2026. No macro, syntax, notation, axiom, sorry.
-/
import Derived.Test.YtdnnjhgkcchcaaaChecked
import GoSem.Claim
import GoSem.ClaimJoined
import GoSem.ClaimMapViews
import Derived.JoinedTies
import Derived.KernelRfl
namespace Go.Proofs.Ytdnnjhgkcchcaaa
/- THE CELL 'sum', in the pinned program and in every row, IS THE sha256 OF THE DUMP (.gsa) THAT YtdnnjhgkcchcaaaProg.lean LOADS. Nothing in Lean hashes anything: it is a label: what it is worth is what the hold of that sum in a sandbox is worth. -/
noncomputable def Try.pinned : Pinned := { name := "ytdnnjhgkcchcaaa", sum := "718cb1aff94e06f9d7c62fe7b598b1905e32fabf2dfe1c6d66ed9a1050fb514e", checked := Try.checked }
namespace Rows
def none {H : Type} : Left H := { results := [], args := [] }

/-- 'laws.FnExactWithTrait': WHATEVER THE INPUT: true; the input reads as it did. -/
def fnExactWithTraitSpec : ChangeSpec := { name := "fnExactWithTrait", fn := fun _ => fun
  | [d1, d2, d3] => { results := [.lit (.bool true)], args := [d1, d2, d3] }
  | _ => none }
def fnExactWithTraitRow : OpenClaim := { program := "ytdnnjhgkcchcaaa", sum := "718cb1aff94e06f9d7c62fe7b598b1905e32fabf2dfe1c6d66ed9a1050fb514e", func := "loop.example/g01203/laws.FnExactWithTrait", spec := "fnExactWithTrait", unfollowed := true, recurses := true, apart := false }
def FnExactWithTraitSaid : Prop := fnExactWithTraitRow.holds Try.pinned (OpenSpec.ofChange fnExactWithTraitSpec)

/-- ITS FALSE NEIGHBOUR: 'it returns false'. Refute it at one input. -/
def fnExactWithTraitWrong : ChangeSpec := { name := "fnExactWithTrait", fn := fun _ => fun
  | [d1, d2, d3] => { results := [.lit (.bool false)], args := [d1, d2, d3] }
  | _ => none }
def FnExactWithTraitWrongFalsely : Prop := fnExactWithTraitRow.holds Try.pinned (OpenSpec.ofChange fnExactWithTraitWrong)

/-- 'laws.FnExactIsDeal': WHATEVER THE INPUT: true; the input reads as it did. -/
def fnExactIsDealSpec : ChangeSpec := { name := "fnExactIsDeal", fn := fun _ => fun
  | [d] => { results := [.lit (.bool true)], args := [d] }
  | _ => none }
def fnExactIsDealRow : OpenClaim := { program := "ytdnnjhgkcchcaaa", sum := "718cb1aff94e06f9d7c62fe7b598b1905e32fabf2dfe1c6d66ed9a1050fb514e", func := "loop.example/g01203/laws.FnExactIsDeal", spec := "fnExactIsDeal", apart := false }
def FnExactIsDealSaid : Prop := fnExactIsDealRow.holds Try.pinned (OpenSpec.ofChange fnExactIsDealSpec)

/-- ITS FALSE NEIGHBOUR: 'it returns false'. Refute it at one input. -/
def fnExactIsDealWrong : ChangeSpec := { name := "fnExactIsDeal", fn := fun _ => fun
  | [d] => { results := [.lit (.bool false)], args := [d] }
  | _ => none }
def FnExactIsDealWrongFalsely : Prop := fnExactIsDealRow.holds Try.pinned (OpenSpec.ofChange fnExactIsDealWrong)

/-- 'laws.FnExactLinesIn': WHATEVER THE INPUT: true; the input reads as it did. -/
def fnExactLinesInSpec : ChangeSpec := { name := "fnExactLinesIn", fn := fun _ => fun
  | [d] => { results := [.lit (.bool true)], args := [d] }
  | _ => none }
def fnExactLinesInRow : OpenClaim := { program := "ytdnnjhgkcchcaaa", sum := "718cb1aff94e06f9d7c62fe7b598b1905e32fabf2dfe1c6d66ed9a1050fb514e", func := "loop.example/g01203/laws.FnExactLinesIn", spec := "fnExactLinesIn", unfollowed := true, recurses := true, apart := false }
def FnExactLinesInSaid : Prop := fnExactLinesInRow.holds Try.pinned (OpenSpec.ofChange fnExactLinesInSpec)

/-- ITS FALSE NEIGHBOUR: 'it returns false'. Refute it at one input. -/
def fnExactLinesInWrong : ChangeSpec := { name := "fnExactLinesIn", fn := fun _ => fun
  | [d] => { results := [.lit (.bool false)], args := [d] }
  | _ => none }
def FnExactLinesInWrongFalsely : Prop := fnExactLinesInRow.holds Try.pinned (OpenSpec.ofChange fnExactLinesInWrong)

/-- 'laws.FnExactIsCap': WHATEVER THE INPUT: true; the input reads as it did. -/
def fnExactIsCapSpec : ChangeSpec := { name := "fnExactIsCap", fn := fun _ => fun
  | [d] => { results := [.lit (.bool true)], args := [d] }
  | _ => none }
def fnExactIsCapRow : OpenClaim := { program := "ytdnnjhgkcchcaaa", sum := "718cb1aff94e06f9d7c62fe7b598b1905e32fabf2dfe1c6d66ed9a1050fb514e", func := "loop.example/g01203/laws.FnExactIsCap", spec := "fnExactIsCap", unfollowed := true, recurses := true, apart := false }
def FnExactIsCapSaid : Prop := fnExactIsCapRow.holds Try.pinned (OpenSpec.ofChange fnExactIsCapSpec)

/-- ITS FALSE NEIGHBOUR: 'it returns false'. Refute it at one input. -/
def fnExactIsCapWrong : ChangeSpec := { name := "fnExactIsCap", fn := fun _ => fun
  | [d] => { results := [.lit (.bool false)], args := [d] }
  | _ => none }
def FnExactIsCapWrongFalsely : Prop := fnExactIsCapRow.holds Try.pinned (OpenSpec.ofChange fnExactIsCapWrong)

/-- 'laws.FnExactCapLines': WHATEVER THE INPUT: true; the input reads as it did. -/
def fnExactCapLinesSpec : ChangeSpec := { name := "fnExactCapLines", fn := fun _ => fun
  | [d1, d2] => { results := [.lit (.bool true)], args := [d1, d2] }
  | _ => none }
def fnExactCapLinesRow : OpenClaim := { program := "ytdnnjhgkcchcaaa", sum := "718cb1aff94e06f9d7c62fe7b598b1905e32fabf2dfe1c6d66ed9a1050fb514e", func := "loop.example/g01203/laws.FnExactCapLines", spec := "fnExactCapLines", unfollowed := true, recurses := true, apart := false }
def FnExactCapLinesSaid : Prop := fnExactCapLinesRow.holds Try.pinned (OpenSpec.ofChange fnExactCapLinesSpec)

/-- ITS FALSE NEIGHBOUR: 'it returns false'. Refute it at one input. -/
def fnExactCapLinesWrong : ChangeSpec := { name := "fnExactCapLines", fn := fun _ => fun
  | [d1, d2] => { results := [.lit (.bool false)], args := [d1, d2] }
  | _ => none }
def FnExactCapLinesWrongFalsely : Prop := fnExactCapLinesRow.holds Try.pinned (OpenSpec.ofChange fnExactCapLinesWrong)

/-- 'laws.FnExactAnchorsOf': WHATEVER THE INPUT: true; the input reads as it did. -/
def fnExactAnchorsOfSpec : ChangeSpec := { name := "fnExactAnchorsOf", fn := fun _ => fun
  | [d] => { results := [.lit (.bool true)], args := [d] }
  | _ => none }
def fnExactAnchorsOfRow : OpenClaim := { program := "ytdnnjhgkcchcaaa", sum := "718cb1aff94e06f9d7c62fe7b598b1905e32fabf2dfe1c6d66ed9a1050fb514e", func := "loop.example/g01203/laws.FnExactAnchorsOf", spec := "fnExactAnchorsOf", unfollowed := true, recurses := true, apart := false }
def FnExactAnchorsOfSaid : Prop := fnExactAnchorsOfRow.holds Try.pinned (OpenSpec.ofChange fnExactAnchorsOfSpec)

/-- ITS FALSE NEIGHBOUR: 'it returns false'. Refute it at one input. -/
def fnExactAnchorsOfWrong : ChangeSpec := { name := "fnExactAnchorsOf", fn := fun _ => fun
  | [d] => { results := [.lit (.bool false)], args := [d] }
  | _ => none }
def FnExactAnchorsOfWrongFalsely : Prop := fnExactAnchorsOfRow.holds Try.pinned (OpenSpec.ofChange fnExactAnchorsOfWrong)

/-- 'laws.FnExactDropCard': WHATEVER THE INPUT: true; the input reads as it did. -/
def fnExactDropCardSpec : ChangeSpec := { name := "fnExactDropCard", fn := fun _ => fun
  | [d1, d2] => { results := [.lit (.bool true)], args := [d1, d2] }
  | _ => none }
def fnExactDropCardRow : OpenClaim := { program := "ytdnnjhgkcchcaaa", sum := "718cb1aff94e06f9d7c62fe7b598b1905e32fabf2dfe1c6d66ed9a1050fb514e", func := "loop.example/g01203/laws.FnExactDropCard", spec := "fnExactDropCard", unfollowed := true, recurses := true, apart := false }
def FnExactDropCardSaid : Prop := fnExactDropCardRow.holds Try.pinned (OpenSpec.ofChange fnExactDropCardSpec)

/-- ITS FALSE NEIGHBOUR: 'it returns false'. Refute it at one input. -/
def fnExactDropCardWrong : ChangeSpec := { name := "fnExactDropCard", fn := fun _ => fun
  | [d1, d2] => { results := [.lit (.bool false)], args := [d1, d2] }
  | _ => none }
def FnExactDropCardWrongFalsely : Prop := fnExactDropCardRow.holds Try.pinned (OpenSpec.ofChange fnExactDropCardWrong)

/-- 'laws.FnExactGreedyCap': WHATEVER THE INPUT: true; the input reads as it did. -/
def fnExactGreedyCapSpec : ChangeSpec := { name := "fnExactGreedyCap", fn := fun _ => fun
  | [d] => { results := [.lit (.bool true)], args := [d] }
  | _ => none }
def fnExactGreedyCapRow : OpenClaim := { program := "ytdnnjhgkcchcaaa", sum := "718cb1aff94e06f9d7c62fe7b598b1905e32fabf2dfe1c6d66ed9a1050fb514e", func := "loop.example/g01203/laws.FnExactGreedyCap", spec := "fnExactGreedyCap", unfollowed := true, recurses := true, apart := false }
def FnExactGreedyCapSaid : Prop := fnExactGreedyCapRow.holds Try.pinned (OpenSpec.ofChange fnExactGreedyCapSpec)

/-- ITS FALSE NEIGHBOUR: 'it returns false'. Refute it at one input. -/
def fnExactGreedyCapWrong : ChangeSpec := { name := "fnExactGreedyCap", fn := fun _ => fun
  | [d] => { results := [.lit (.bool false)], args := [d] }
  | _ => none }
def FnExactGreedyCapWrongFalsely : Prop := fnExactGreedyCapRow.holds Try.pinned (OpenSpec.ofChange fnExactGreedyCapWrong)

/-- 'laws.FnExactIsStuck': WHATEVER THE INPUT: true; the input reads as it did. -/
def fnExactIsStuckSpec : ChangeSpec := { name := "fnExactIsStuck", fn := fun _ => fun
  | [d] => { results := [.lit (.bool true)], args := [d] }
  | _ => none }
def fnExactIsStuckRow : OpenClaim := { program := "ytdnnjhgkcchcaaa", sum := "718cb1aff94e06f9d7c62fe7b598b1905e32fabf2dfe1c6d66ed9a1050fb514e", func := "loop.example/g01203/laws.FnExactIsStuck", spec := "fnExactIsStuck", apart := false }
def FnExactIsStuckSaid : Prop := fnExactIsStuckRow.holds Try.pinned (OpenSpec.ofChange fnExactIsStuckSpec)

/-- ITS FALSE NEIGHBOUR: 'it returns false'. Refute it at one input. -/
def fnExactIsStuckWrong : ChangeSpec := { name := "fnExactIsStuck", fn := fun _ => fun
  | [d] => { results := [.lit (.bool false)], args := [d] }
  | _ => none }
def FnExactIsStuckWrongFalsely : Prop := fnExactIsStuckRow.holds Try.pinned (OpenSpec.ofChange fnExactIsStuckWrong)

/-- 'laws.FnExactIsOverDeal': WHATEVER THE INPUT: true; the input reads as it did. -/
def fnExactIsOverDealSpec : ChangeSpec := { name := "fnExactIsOverDeal", fn := fun _ => fun
  | [d] => { results := [.lit (.bool true)], args := [d] }
  | _ => none }
def fnExactIsOverDealRow : OpenClaim := { program := "ytdnnjhgkcchcaaa", sum := "718cb1aff94e06f9d7c62fe7b598b1905e32fabf2dfe1c6d66ed9a1050fb514e", func := "loop.example/g01203/laws.FnExactIsOverDeal", spec := "fnExactIsOverDeal", apart := false }
def FnExactIsOverDealSaid : Prop := fnExactIsOverDealRow.holds Try.pinned (OpenSpec.ofChange fnExactIsOverDealSpec)

/-- ITS FALSE NEIGHBOUR: 'it returns false'. Refute it at one input. -/
def fnExactIsOverDealWrong : ChangeSpec := { name := "fnExactIsOverDeal", fn := fun _ => fun
  | [d] => { results := [.lit (.bool false)], args := [d] }
  | _ => none }
def FnExactIsOverDealWrongFalsely : Prop := fnExactIsOverDealRow.holds Try.pinned (OpenSpec.ofChange fnExactIsOverDealWrong)

/-- 'laws.FnExactDealLines': WHATEVER THE INPUT: true; the input reads as it did. -/
def fnExactDealLinesSpec : ChangeSpec := { name := "fnExactDealLines", fn := fun _ => fun
  | [d] => { results := [.lit (.bool true)], args := [d] }
  | _ => none }
def fnExactDealLinesRow : OpenClaim := { program := "ytdnnjhgkcchcaaa", sum := "718cb1aff94e06f9d7c62fe7b598b1905e32fabf2dfe1c6d66ed9a1050fb514e", func := "loop.example/g01203/laws.FnExactDealLines", spec := "fnExactDealLines", apart := false }
def FnExactDealLinesSaid : Prop := fnExactDealLinesRow.holds Try.pinned (OpenSpec.ofChange fnExactDealLinesSpec)

/-- ITS FALSE NEIGHBOUR: 'it returns false'. Refute it at one input. -/
def fnExactDealLinesWrong : ChangeSpec := { name := "fnExactDealLines", fn := fun _ => fun
  | [d] => { results := [.lit (.bool false)], args := [d] }
  | _ => none }
def FnExactDealLinesWrongFalsely : Prop := fnExactDealLinesRow.holds Try.pinned (OpenSpec.ofChange fnExactDealLinesWrong)

/-- 'laws.FnExactBlockedCards': WHATEVER THE INPUT: true; the input reads as it did. -/
def fnExactBlockedCardsSpec : ChangeSpec := { name := "fnExactBlockedCards", fn := fun _ => fun
  | [d] => { results := [.lit (.bool true)], args := [d] }
  | _ => none }
def fnExactBlockedCardsRow : OpenClaim := { program := "ytdnnjhgkcchcaaa", sum := "718cb1aff94e06f9d7c62fe7b598b1905e32fabf2dfe1c6d66ed9a1050fb514e", func := "loop.example/g01203/laws.FnExactBlockedCards", spec := "fnExactBlockedCards", unfollowed := true, recurses := true, apart := false }
def FnExactBlockedCardsSaid : Prop := fnExactBlockedCardsRow.holds Try.pinned (OpenSpec.ofChange fnExactBlockedCardsSpec)

/-- ITS FALSE NEIGHBOUR: 'it returns false'. Refute it at one input. -/
def fnExactBlockedCardsWrong : ChangeSpec := { name := "fnExactBlockedCards", fn := fun _ => fun
  | [d] => { results := [.lit (.bool false)], args := [d] }
  | _ => none }
def FnExactBlockedCardsWrongFalsely : Prop := fnExactBlockedCardsRow.holds Try.pinned (OpenSpec.ofChange fnExactBlockedCardsWrong)

/-- 'laws.FnExactFreeCards': WHATEVER THE INPUT: true; the input reads as it did. -/
def fnExactFreeCardsSpec : ChangeSpec := { name := "fnExactFreeCards", fn := fun _ => fun
  | [d] => { results := [.lit (.bool true)], args := [d] }
  | _ => none }
def fnExactFreeCardsRow : OpenClaim := { program := "ytdnnjhgkcchcaaa", sum := "718cb1aff94e06f9d7c62fe7b598b1905e32fabf2dfe1c6d66ed9a1050fb514e", func := "loop.example/g01203/laws.FnExactFreeCards", spec := "fnExactFreeCards", unfollowed := true, recurses := true, apart := false }
def FnExactFreeCardsSaid : Prop := fnExactFreeCardsRow.holds Try.pinned (OpenSpec.ofChange fnExactFreeCardsSpec)

/-- ITS FALSE NEIGHBOUR: 'it returns false'. Refute it at one input. -/
def fnExactFreeCardsWrong : ChangeSpec := { name := "fnExactFreeCards", fn := fun _ => fun
  | [d] => { results := [.lit (.bool false)], args := [d] }
  | _ => none }
def FnExactFreeCardsWrongFalsely : Prop := fnExactFreeCardsRow.holds Try.pinned (OpenSpec.ofChange fnExactFreeCardsWrong)

/-- 'laws.FnExactIsFullCap': WHATEVER THE INPUT: true; the input reads as it did. -/
def fnExactIsFullCapSpec : ChangeSpec := { name := "fnExactIsFullCap", fn := fun _ => fun
  | [d] => { results := [.lit (.bool true)], args := [d] }
  | _ => none }
def fnExactIsFullCapRow : OpenClaim := { program := "ytdnnjhgkcchcaaa", sum := "718cb1aff94e06f9d7c62fe7b598b1905e32fabf2dfe1c6d66ed9a1050fb514e", func := "loop.example/g01203/laws.FnExactIsFullCap", spec := "fnExactIsFullCap", unfollowed := true, recurses := true, apart := false }
def FnExactIsFullCapSaid : Prop := fnExactIsFullCapRow.holds Try.pinned (OpenSpec.ofChange fnExactIsFullCapSpec)

/-- ITS FALSE NEIGHBOUR: 'it returns false'. Refute it at one input. -/
def fnExactIsFullCapWrong : ChangeSpec := { name := "fnExactIsFullCap", fn := fun _ => fun
  | [d] => { results := [.lit (.bool false)], args := [d] }
  | _ => none }
def FnExactIsFullCapWrongFalsely : Prop := fnExactIsFullCapRow.holds Try.pinned (OpenSpec.ofChange fnExactIsFullCapWrong)

/- THE SECOND FORM. 'bulk': how many values and letters a reading holds, each counted each time it is reached (what is shared counts as often as it is met; a slice's spare places count too). A statement '..UptoSaid' is the law's where the arguments, and the package variables that the reading takes, are together of bulk at most 1048576: NARROWER than '..Said'. Prove '..Said' where nothing that the law and all that it calls make is longer than what came in: it says more and counts as full. Else prove '..UptoSaid'. A law counts once. -/
mutual
def uptoBulk {H : Type} : DataW H → Nat
  | .lit (.string bytes) => bytes.length + 1
  | .lit _ => 1
  | .nil => 1
  | .ptr d => uptoBulk d + 1
  | .slice elems spare => uptoBulkAll elems + uptoBulkAll spare + 1
  | .agg parts => uptoBulkAll parts + 1
  | .iface _ d => uptoBulk d + 1
  | .map entries => uptoBulkEntries entries + 1
  | .held _ => 1
def uptoBulkAll {H : Type} : List (DataW H) → Nat
  | [] => 0
  | d :: r => uptoBulk d + uptoBulkAll r
def uptoBulkEntries {H : Type} : List (Lit × DataW H) → Nat
  | [] => 0
  | x :: r => uptoBulkEntry x + uptoBulkEntries r
def uptoBulkEntry {H : Type} : Lit × DataW H → Nat
  | (.string bytes, d) => bytes.length + uptoBulk d + 1
  | (_, d) => uptoBulk d + 1
 end
def uptoSmall : (H : Type) → List (DataW H) → Bool := fun _ ds => decide (uptoBulkAll ds ≤ 1048576)
def OpenSpec.upto (s : _root_.Go.ChangeSpec) : _root_.Go.OpenSpec := { _root_.Go.OpenSpec.ofChange s with cond := some uptoSmall }

/-- 'laws.FnExactWithTrait', WHERE WHAT IT READS IS OF BULK AT MOST 1048576: true; the input reads as it did. -/
def fnExactWithTraitUptoRow : OpenClaim := { program := "ytdnnjhgkcchcaaa", sum := "718cb1aff94e06f9d7c62fe7b598b1905e32fabf2dfe1c6d66ed9a1050fb514e", func := "loop.example/g01203/laws.FnExactWithTrait", spec := "fnExactWithTrait", unfollowed := true, recurses := true, apart := false, narrowed := true }
def FnExactWithTraitUptoSaid : Prop := fnExactWithTraitUptoRow.holds Try.pinned (OpenSpec.upto fnExactWithTraitSpec)

/-- 'laws.FnExactIsDeal', WHERE WHAT IT READS IS OF BULK AT MOST 1048576: true; the input reads as it did. -/
def fnExactIsDealUptoRow : OpenClaim := { program := "ytdnnjhgkcchcaaa", sum := "718cb1aff94e06f9d7c62fe7b598b1905e32fabf2dfe1c6d66ed9a1050fb514e", func := "loop.example/g01203/laws.FnExactIsDeal", spec := "fnExactIsDeal", apart := false, narrowed := true }
def FnExactIsDealUptoSaid : Prop := fnExactIsDealUptoRow.holds Try.pinned (OpenSpec.upto fnExactIsDealSpec)

/-- 'laws.FnExactLinesIn', WHERE WHAT IT READS IS OF BULK AT MOST 1048576: true; the input reads as it did. -/
def fnExactLinesInUptoRow : OpenClaim := { program := "ytdnnjhgkcchcaaa", sum := "718cb1aff94e06f9d7c62fe7b598b1905e32fabf2dfe1c6d66ed9a1050fb514e", func := "loop.example/g01203/laws.FnExactLinesIn", spec := "fnExactLinesIn", unfollowed := true, recurses := true, apart := false, narrowed := true }
def FnExactLinesInUptoSaid : Prop := fnExactLinesInUptoRow.holds Try.pinned (OpenSpec.upto fnExactLinesInSpec)

/-- 'laws.FnExactIsCap', WHERE WHAT IT READS IS OF BULK AT MOST 1048576: true; the input reads as it did. -/
def fnExactIsCapUptoRow : OpenClaim := { program := "ytdnnjhgkcchcaaa", sum := "718cb1aff94e06f9d7c62fe7b598b1905e32fabf2dfe1c6d66ed9a1050fb514e", func := "loop.example/g01203/laws.FnExactIsCap", spec := "fnExactIsCap", unfollowed := true, recurses := true, apart := false, narrowed := true }
def FnExactIsCapUptoSaid : Prop := fnExactIsCapUptoRow.holds Try.pinned (OpenSpec.upto fnExactIsCapSpec)

/-- 'laws.FnExactCapLines', WHERE WHAT IT READS IS OF BULK AT MOST 1048576: true; the input reads as it did. -/
def fnExactCapLinesUptoRow : OpenClaim := { program := "ytdnnjhgkcchcaaa", sum := "718cb1aff94e06f9d7c62fe7b598b1905e32fabf2dfe1c6d66ed9a1050fb514e", func := "loop.example/g01203/laws.FnExactCapLines", spec := "fnExactCapLines", unfollowed := true, recurses := true, apart := false, narrowed := true }
def FnExactCapLinesUptoSaid : Prop := fnExactCapLinesUptoRow.holds Try.pinned (OpenSpec.upto fnExactCapLinesSpec)

/-- 'laws.FnExactAnchorsOf', WHERE WHAT IT READS IS OF BULK AT MOST 1048576: true; the input reads as it did. -/
def fnExactAnchorsOfUptoRow : OpenClaim := { program := "ytdnnjhgkcchcaaa", sum := "718cb1aff94e06f9d7c62fe7b598b1905e32fabf2dfe1c6d66ed9a1050fb514e", func := "loop.example/g01203/laws.FnExactAnchorsOf", spec := "fnExactAnchorsOf", unfollowed := true, recurses := true, apart := false, narrowed := true }
def FnExactAnchorsOfUptoSaid : Prop := fnExactAnchorsOfUptoRow.holds Try.pinned (OpenSpec.upto fnExactAnchorsOfSpec)

/-- 'laws.FnExactDropCard', WHERE WHAT IT READS IS OF BULK AT MOST 1048576: true; the input reads as it did. -/
def fnExactDropCardUptoRow : OpenClaim := { program := "ytdnnjhgkcchcaaa", sum := "718cb1aff94e06f9d7c62fe7b598b1905e32fabf2dfe1c6d66ed9a1050fb514e", func := "loop.example/g01203/laws.FnExactDropCard", spec := "fnExactDropCard", unfollowed := true, recurses := true, apart := false, narrowed := true }
def FnExactDropCardUptoSaid : Prop := fnExactDropCardUptoRow.holds Try.pinned (OpenSpec.upto fnExactDropCardSpec)

/-- 'laws.FnExactGreedyCap', WHERE WHAT IT READS IS OF BULK AT MOST 1048576: true; the input reads as it did. -/
def fnExactGreedyCapUptoRow : OpenClaim := { program := "ytdnnjhgkcchcaaa", sum := "718cb1aff94e06f9d7c62fe7b598b1905e32fabf2dfe1c6d66ed9a1050fb514e", func := "loop.example/g01203/laws.FnExactGreedyCap", spec := "fnExactGreedyCap", unfollowed := true, recurses := true, apart := false, narrowed := true }
def FnExactGreedyCapUptoSaid : Prop := fnExactGreedyCapUptoRow.holds Try.pinned (OpenSpec.upto fnExactGreedyCapSpec)

/-- 'laws.FnExactIsStuck', WHERE WHAT IT READS IS OF BULK AT MOST 1048576: true; the input reads as it did. -/
def fnExactIsStuckUptoRow : OpenClaim := { program := "ytdnnjhgkcchcaaa", sum := "718cb1aff94e06f9d7c62fe7b598b1905e32fabf2dfe1c6d66ed9a1050fb514e", func := "loop.example/g01203/laws.FnExactIsStuck", spec := "fnExactIsStuck", apart := false, narrowed := true }
def FnExactIsStuckUptoSaid : Prop := fnExactIsStuckUptoRow.holds Try.pinned (OpenSpec.upto fnExactIsStuckSpec)

/-- 'laws.FnExactIsOverDeal', WHERE WHAT IT READS IS OF BULK AT MOST 1048576: true; the input reads as it did. -/
def fnExactIsOverDealUptoRow : OpenClaim := { program := "ytdnnjhgkcchcaaa", sum := "718cb1aff94e06f9d7c62fe7b598b1905e32fabf2dfe1c6d66ed9a1050fb514e", func := "loop.example/g01203/laws.FnExactIsOverDeal", spec := "fnExactIsOverDeal", apart := false, narrowed := true }
def FnExactIsOverDealUptoSaid : Prop := fnExactIsOverDealUptoRow.holds Try.pinned (OpenSpec.upto fnExactIsOverDealSpec)

/-- 'laws.FnExactDealLines', WHERE WHAT IT READS IS OF BULK AT MOST 1048576: true; the input reads as it did. -/
def fnExactDealLinesUptoRow : OpenClaim := { program := "ytdnnjhgkcchcaaa", sum := "718cb1aff94e06f9d7c62fe7b598b1905e32fabf2dfe1c6d66ed9a1050fb514e", func := "loop.example/g01203/laws.FnExactDealLines", spec := "fnExactDealLines", apart := false, narrowed := true }
def FnExactDealLinesUptoSaid : Prop := fnExactDealLinesUptoRow.holds Try.pinned (OpenSpec.upto fnExactDealLinesSpec)

/-- 'laws.FnExactBlockedCards', WHERE WHAT IT READS IS OF BULK AT MOST 1048576: true; the input reads as it did. -/
def fnExactBlockedCardsUptoRow : OpenClaim := { program := "ytdnnjhgkcchcaaa", sum := "718cb1aff94e06f9d7c62fe7b598b1905e32fabf2dfe1c6d66ed9a1050fb514e", func := "loop.example/g01203/laws.FnExactBlockedCards", spec := "fnExactBlockedCards", unfollowed := true, recurses := true, apart := false, narrowed := true }
def FnExactBlockedCardsUptoSaid : Prop := fnExactBlockedCardsUptoRow.holds Try.pinned (OpenSpec.upto fnExactBlockedCardsSpec)

/-- 'laws.FnExactFreeCards', WHERE WHAT IT READS IS OF BULK AT MOST 1048576: true; the input reads as it did. -/
def fnExactFreeCardsUptoRow : OpenClaim := { program := "ytdnnjhgkcchcaaa", sum := "718cb1aff94e06f9d7c62fe7b598b1905e32fabf2dfe1c6d66ed9a1050fb514e", func := "loop.example/g01203/laws.FnExactFreeCards", spec := "fnExactFreeCards", unfollowed := true, recurses := true, apart := false, narrowed := true }
def FnExactFreeCardsUptoSaid : Prop := fnExactFreeCardsUptoRow.holds Try.pinned (OpenSpec.upto fnExactFreeCardsSpec)

/-- 'laws.FnExactIsFullCap', WHERE WHAT IT READS IS OF BULK AT MOST 1048576: true; the input reads as it did. -/
def fnExactIsFullCapUptoRow : OpenClaim := { program := "ytdnnjhgkcchcaaa", sum := "718cb1aff94e06f9d7c62fe7b598b1905e32fabf2dfe1c6d66ed9a1050fb514e", func := "loop.example/g01203/laws.FnExactIsFullCap", spec := "fnExactIsFullCap", unfollowed := true, recurses := true, apart := false, narrowed := true }
def FnExactIsFullCapUptoSaid : Prop := fnExactIsFullCapUptoRow.holds Try.pinned (OpenSpec.upto fnExactIsFullCapSpec)

end Rows
end Go.Proofs.Ytdnnjhgkcchcaaa
