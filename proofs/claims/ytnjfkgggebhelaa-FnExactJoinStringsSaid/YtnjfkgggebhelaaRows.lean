/-
  No cell of these rows narrows 'for every input' (looked for: loops, veiled, ifaces, maps, wideKeys, modest, calm, conditions, laid).
  DERIVED. THE GIVEN ROWS OF THIS SEAT. 9 by the template 'for every input the law returns true; each argument reads behind the call as it read before'; 0 by the template 'total and deterministic' (their statements: YtnjfkgggebhelaaTotals.lean).
  GIVEN WITH THE SEED: the statements are not yours to turn. If you find one false, say at which input.
  Laid BY PROGRAM, IN A SANDBOX (cutbox-rows.mjs): the forced cells as the released guide's own fill.sh prints them over the translation 399cabcf55659831… (all of the seat's roots in one cut). By AI agents, Wed Nov 11 2026. No macro, syntax, notation, axiom, sorry.
-/
import Derived.Test.YtnjfkgggebhelaaChecked
import GoSem.Claim
import GoSem.ClaimJoined
import GoSem.ClaimMapViews
import Derived.JoinedTies
import Derived.KernelRfl
namespace Go.Proofs.Ytnjfkgggebhelaa
/- THE CELL 'sum', in the pinned program and in every row, IS THE sha256 OF THE DUMP (.gsa) THAT YtnjfkgggebhelaaProg.lean LOADS. Nothing in Lean hashes anything: it is a label: what it is worth is what the hold of that sum in a sandbox is worth. -/
noncomputable def Try.pinned : Pinned := { name := "ytnjfkgggebhelaa", sum := "399cabcf556598314ba64a2464a25bb95173976baa102be002f883f8b1eaf537", checked := Try.checked }
namespace Rows
def none {H : Type} : Left H := { results := [], args := [] }

/-- 'laws.FnExactSortCards': WHATEVER THE INPUT: true; the input reads as it did. -/
def fnExactSortCardsSpec : ChangeSpec := { name := "fnExactSortCards", fn := fun _ => fun
  | [d] => { results := [.lit (.bool true)], args := [d] }
  | _ => none }
def fnExactSortCardsRow : OpenClaim := { program := "ytnjfkgggebhelaa", sum := "399cabcf556598314ba64a2464a25bb95173976baa102be002f883f8b1eaf537", func := "loop.example/g01203/laws.FnExactSortCards", spec := "fnExactSortCards", unfollowed := true, recurses := true, apart := false }
def FnExactSortCardsSaid : Prop := fnExactSortCardsRow.holds Try.pinned (OpenSpec.ofChange fnExactSortCardsSpec)

/-- ITS FALSE NEIGHBOUR: 'it returns false'. Refute it at one input. -/
def fnExactSortCardsWrong : ChangeSpec := { name := "fnExactSortCards", fn := fun _ => fun
  | [d] => { results := [.lit (.bool false)], args := [d] }
  | _ => none }
def FnExactSortCardsWrongFalsely : Prop := fnExactSortCardsRow.holds Try.pinned (OpenSpec.ofChange fnExactSortCardsWrong)

/-- 'laws.FnExactPutCard': WHATEVER THE INPUT: true; the input reads as it did. -/
def fnExactPutCardSpec : ChangeSpec := { name := "fnExactPutCard", fn := fun _ => fun
  | [d1, d2] => { results := [.lit (.bool true)], args := [d1, d2] }
  | _ => none }
def fnExactPutCardRow : OpenClaim := { program := "ytnjfkgggebhelaa", sum := "399cabcf556598314ba64a2464a25bb95173976baa102be002f883f8b1eaf537", func := "loop.example/g01203/laws.FnExactPutCard", spec := "fnExactPutCard", unfollowed := true, recurses := true, apart := false }
def FnExactPutCardSaid : Prop := fnExactPutCardRow.holds Try.pinned (OpenSpec.ofChange fnExactPutCardSpec)

/-- ITS FALSE NEIGHBOUR: 'it returns false'. Refute it at one input. -/
def fnExactPutCardWrong : ChangeSpec := { name := "fnExactPutCard", fn := fun _ => fun
  | [d1, d2] => { results := [.lit (.bool false)], args := [d1, d2] }
  | _ => none }
def FnExactPutCardWrongFalsely : Prop := fnExactPutCardRow.holds Try.pinned (OpenSpec.ofChange fnExactPutCardWrong)

/-- 'laws.FnExactJoinCaps': WHATEVER THE INPUT: true; the input reads as it did. -/
def fnExactJoinCapsSpec : ChangeSpec := { name := "fnExactJoinCaps", fn := fun _ => fun
  | [d1, d2] => { results := [.lit (.bool true)], args := [d1, d2] }
  | _ => none }
def fnExactJoinCapsRow : OpenClaim := { program := "ytnjfkgggebhelaa", sum := "399cabcf556598314ba64a2464a25bb95173976baa102be002f883f8b1eaf537", func := "loop.example/g01203/laws.FnExactJoinCaps", spec := "fnExactJoinCaps", unfollowed := true, recurses := true, apart := false }
def FnExactJoinCapsSaid : Prop := fnExactJoinCapsRow.holds Try.pinned (OpenSpec.ofChange fnExactJoinCapsSpec)

/-- ITS FALSE NEIGHBOUR: 'it returns false'. Refute it at one input. -/
def fnExactJoinCapsWrong : ChangeSpec := { name := "fnExactJoinCaps", fn := fun _ => fun
  | [d1, d2] => { results := [.lit (.bool false)], args := [d1, d2] }
  | _ => none }
def FnExactJoinCapsWrongFalsely : Prop := fnExactJoinCapsRow.holds Try.pinned (OpenSpec.ofChange fnExactJoinCapsWrong)

/-- 'laws.FnExactFillCap': WHATEVER THE INPUT: true; the input reads as it did. -/
def fnExactFillCapSpec : ChangeSpec := { name := "fnExactFillCap", fn := fun _ => fun
  | [d] => { results := [.lit (.bool true)], args := [d] }
  | _ => none }
def fnExactFillCapRow : OpenClaim := { program := "ytnjfkgggebhelaa", sum := "399cabcf556598314ba64a2464a25bb95173976baa102be002f883f8b1eaf537", func := "loop.example/g01203/laws.FnExactFillCap", spec := "fnExactFillCap", unfollowed := true, recurses := true, apart := false }
def FnExactFillCapSaid : Prop := fnExactFillCapRow.holds Try.pinned (OpenSpec.ofChange fnExactFillCapSpec)

/-- ITS FALSE NEIGHBOUR: 'it returns false'. Refute it at one input. -/
def fnExactFillCapWrong : ChangeSpec := { name := "fnExactFillCap", fn := fun _ => fun
  | [d] => { results := [.lit (.bool false)], args := [d] }
  | _ => none }
def FnExactFillCapWrongFalsely : Prop := fnExactFillCapRow.holds Try.pinned (OpenSpec.ofChange fnExactFillCapWrong)

/-- 'laws.FnExactPlayDeal': WHATEVER THE INPUT: true; the input reads as it did. -/
def fnExactPlayDealSpec : ChangeSpec := { name := "fnExactPlayDeal", fn := fun _ => fun
  | [d] => { results := [.lit (.bool true)], args := [d] }
  | _ => none }
def fnExactPlayDealRow : OpenClaim := { program := "ytnjfkgggebhelaa", sum := "399cabcf556598314ba64a2464a25bb95173976baa102be002f883f8b1eaf537", func := "loop.example/g01203/laws.FnExactPlayDeal", spec := "fnExactPlayDeal", unfollowed := true, recurses := true, apart := false }
def FnExactPlayDealSaid : Prop := fnExactPlayDealRow.holds Try.pinned (OpenSpec.ofChange fnExactPlayDealSpec)

/-- ITS FALSE NEIGHBOUR: 'it returns false'. Refute it at one input. -/
def fnExactPlayDealWrong : ChangeSpec := { name := "fnExactPlayDeal", fn := fun _ => fun
  | [d] => { results := [.lit (.bool false)], args := [d] }
  | _ => none }
def FnExactPlayDealWrongFalsely : Prop := fnExactPlayDealRow.holds Try.pinned (OpenSpec.ofChange fnExactPlayDealWrong)

/-- 'laws.FnExactJoinStrings': WHATEVER THE INPUT: true; the input reads as it did. -/
def fnExactJoinStringsSpec : ChangeSpec := { name := "fnExactJoinStrings", fn := fun _ => fun
  | [d1, d2] => { results := [.lit (.bool true)], args := [d1, d2] }
  | _ => none }
def fnExactJoinStringsRow : OpenClaim := { program := "ytnjfkgggebhelaa", sum := "399cabcf556598314ba64a2464a25bb95173976baa102be002f883f8b1eaf537", func := "loop.example/g01203/laws.FnExactJoinStrings", spec := "fnExactJoinStrings", inPlace := ["internal/bytealg.IndexByteString", "internal/bytealg.IndexString", "internal/abi.NoEscape", "internal/bytealg.MakeNoZero"], named := ["internal/bytealg.MaxLen"], apart := false }
def FnExactJoinStringsSaid : Prop := fnExactJoinStringsRow.holds Try.pinned (OpenSpec.ofChange fnExactJoinStringsSpec)

/-- ITS FALSE NEIGHBOUR: 'it returns false'. Refute it at one input. -/
def fnExactJoinStringsWrong : ChangeSpec := { name := "fnExactJoinStrings", fn := fun _ => fun
  | [d1, d2] => { results := [.lit (.bool false)], args := [d1, d2] }
  | _ => none }
def FnExactJoinStringsWrongFalsely : Prop := fnExactJoinStringsRow.holds Try.pinned (OpenSpec.ofChange fnExactJoinStringsWrong)

/-- 'laws.FnExactHandText': WHATEVER THE INPUT: true; the input reads as it did. -/
def fnExactHandTextSpec : ChangeSpec := { name := "fnExactHandText", fn := fun _ => fun
  | [d] => { results := [.lit (.bool true)], args := [d] }
  | _ => none }
def fnExactHandTextRow : OpenClaim := { program := "ytnjfkgggebhelaa", sum := "399cabcf556598314ba64a2464a25bb95173976baa102be002f883f8b1eaf537", func := "loop.example/g01203/laws.FnExactHandText", spec := "fnExactHandText", inPlace := ["internal/abi.NoEscape", "internal/bytealg.MakeNoZero"], unfollowed := true, recurses := true, apart := false }
def FnExactHandTextSaid : Prop := fnExactHandTextRow.holds Try.pinned (OpenSpec.ofChange fnExactHandTextSpec)

/-- ITS FALSE NEIGHBOUR: 'it returns false'. Refute it at one input. -/
def fnExactHandTextWrong : ChangeSpec := { name := "fnExactHandText", fn := fun _ => fun
  | [d] => { results := [.lit (.bool false)], args := [d] }
  | _ => none }
def FnExactHandTextWrongFalsely : Prop := fnExactHandTextRow.holds Try.pinned (OpenSpec.ofChange fnExactHandTextWrong)

/-- 'laws.FnExactFirstMap': WHATEVER THE INPUT: true; the input reads as it did. -/
def fnExactFirstMapSpec : ChangeSpec := { name := "fnExactFirstMap", fn := fun _ => fun
  | [d1, d2] => { results := [.lit (.bool true)], args := [d1, d2] }
  | _ => none }
def fnExactFirstMapRow : OpenClaim := { program := "ytnjfkgggebhelaa", sum := "399cabcf556598314ba64a2464a25bb95173976baa102be002f883f8b1eaf537", func := "loop.example/g01203/laws.FnExactFirstMap", spec := "fnExactFirstMap", unfollowed := true, recurses := true, apart := false }
def FnExactFirstMapSaid : Prop := fnExactFirstMapRow.holds Try.pinned (OpenSpec.ofChange fnExactFirstMapSpec)

/-- ITS FALSE NEIGHBOUR: 'it returns false'. Refute it at one input. -/
def fnExactFirstMapWrong : ChangeSpec := { name := "fnExactFirstMap", fn := fun _ => fun
  | [d1, d2] => { results := [.lit (.bool false)], args := [d1, d2] }
  | _ => none }
def FnExactFirstMapWrongFalsely : Prop := fnExactFirstMapRow.holds Try.pinned (OpenSpec.ofChange fnExactFirstMapWrong)

/-- 'laws.FnExactAreAlike': WHATEVER THE INPUT: true; the input reads as it did. -/
def fnExactAreAlikeSpec : ChangeSpec := { name := "fnExactAreAlike", fn := fun _ => fun
  | [d1, d2] => { results := [.lit (.bool true)], args := [d1, d2] }
  | _ => none }
def fnExactAreAlikeRow : OpenClaim := { program := "ytnjfkgggebhelaa", sum := "399cabcf556598314ba64a2464a25bb95173976baa102be002f883f8b1eaf537", func := "loop.example/g01203/laws.FnExactAreAlike", spec := "fnExactAreAlike", unfollowed := true, recurses := true, apart := false }
def FnExactAreAlikeSaid : Prop := fnExactAreAlikeRow.holds Try.pinned (OpenSpec.ofChange fnExactAreAlikeSpec)

/-- ITS FALSE NEIGHBOUR: 'it returns false'. Refute it at one input. -/
def fnExactAreAlikeWrong : ChangeSpec := { name := "fnExactAreAlike", fn := fun _ => fun
  | [d1, d2] => { results := [.lit (.bool false)], args := [d1, d2] }
  | _ => none }
def FnExactAreAlikeWrongFalsely : Prop := fnExactAreAlikeRow.holds Try.pinned (OpenSpec.ofChange fnExactAreAlikeWrong)

/- THE SECOND FORM. 'bulk': how many values and letters a reading holds, each counted each time it is reached (what is shared counts as often as it is met; a slice's spare places count too). A statement '..UptoSaid' is the law's where the arguments, and the package variables that the reading takes, are together of bulk at most 1048576: NARROWER than '..Said'. Prove '..Said' where nothing that the law and all that it calls make is longer than what came in: it says more and counts as full. Else prove '..UptoSaid'. A law counts once. -/
mutual
def uptoBulk {H : Type} : DataW H → Nat
  | .lit (.string bytes) => bytes.length + 1
  | .lit _ => 1
  | .nil => 1
  | .ptr d => uptoBulk d + 1
  | .slice elems spare => uptoBulkAll elems + uptoBulkAll spare + 1
  | .agg parts => uptoBulkAll parts + 1
  | .iface _ d => uptoBulk d + 1
  | .map entries => uptoBulkEntries entries + 1
  | .held _ => 1
def uptoBulkAll {H : Type} : List (DataW H) → Nat
  | [] => 0
  | d :: r => uptoBulk d + uptoBulkAll r
def uptoBulkEntries {H : Type} : List (Lit × DataW H) → Nat
  | [] => 0
  | x :: r => uptoBulkEntry x + uptoBulkEntries r
def uptoBulkEntry {H : Type} : Lit × DataW H → Nat
  | (.string bytes, d) => bytes.length + uptoBulk d + 1
  | (_, d) => uptoBulk d + 1
 end
def uptoSmall : (H : Type) → List (DataW H) → Bool := fun _ ds => decide (uptoBulkAll ds ≤ 1048576)
def OpenSpec.upto (s : _root_.Go.ChangeSpec) : _root_.Go.OpenSpec := { _root_.Go.OpenSpec.ofChange s with cond := some uptoSmall }

/-- 'laws.FnExactSortCards', WHERE WHAT IT READS IS OF BULK AT MOST 1048576: true; the input reads as it did. -/
def fnExactSortCardsUptoRow : OpenClaim := { program := "ytnjfkgggebhelaa", sum := "399cabcf556598314ba64a2464a25bb95173976baa102be002f883f8b1eaf537", func := "loop.example/g01203/laws.FnExactSortCards", spec := "fnExactSortCards", unfollowed := true, recurses := true, apart := false, narrowed := true }
def FnExactSortCardsUptoSaid : Prop := fnExactSortCardsUptoRow.holds Try.pinned (OpenSpec.upto fnExactSortCardsSpec)

/-- 'laws.FnExactPutCard', WHERE WHAT IT READS IS OF BULK AT MOST 1048576: true; the input reads as it did. -/
def fnExactPutCardUptoRow : OpenClaim := { program := "ytnjfkgggebhelaa", sum := "399cabcf556598314ba64a2464a25bb95173976baa102be002f883f8b1eaf537", func := "loop.example/g01203/laws.FnExactPutCard", spec := "fnExactPutCard", unfollowed := true, recurses := true, apart := false, narrowed := true }
def FnExactPutCardUptoSaid : Prop := fnExactPutCardUptoRow.holds Try.pinned (OpenSpec.upto fnExactPutCardSpec)

/-- 'laws.FnExactJoinCaps', WHERE WHAT IT READS IS OF BULK AT MOST 1048576: true; the input reads as it did. -/
def fnExactJoinCapsUptoRow : OpenClaim := { program := "ytnjfkgggebhelaa", sum := "399cabcf556598314ba64a2464a25bb95173976baa102be002f883f8b1eaf537", func := "loop.example/g01203/laws.FnExactJoinCaps", spec := "fnExactJoinCaps", unfollowed := true, recurses := true, apart := false, narrowed := true }
def FnExactJoinCapsUptoSaid : Prop := fnExactJoinCapsUptoRow.holds Try.pinned (OpenSpec.upto fnExactJoinCapsSpec)

/-- 'laws.FnExactFillCap', WHERE WHAT IT READS IS OF BULK AT MOST 1048576: true; the input reads as it did. -/
def fnExactFillCapUptoRow : OpenClaim := { program := "ytnjfkgggebhelaa", sum := "399cabcf556598314ba64a2464a25bb95173976baa102be002f883f8b1eaf537", func := "loop.example/g01203/laws.FnExactFillCap", spec := "fnExactFillCap", unfollowed := true, recurses := true, apart := false, narrowed := true }
def FnExactFillCapUptoSaid : Prop := fnExactFillCapUptoRow.holds Try.pinned (OpenSpec.upto fnExactFillCapSpec)

/-- 'laws.FnExactPlayDeal', WHERE WHAT IT READS IS OF BULK AT MOST 1048576: true; the input reads as it did. -/
def fnExactPlayDealUptoRow : OpenClaim := { program := "ytnjfkgggebhelaa", sum := "399cabcf556598314ba64a2464a25bb95173976baa102be002f883f8b1eaf537", func := "loop.example/g01203/laws.FnExactPlayDeal", spec := "fnExactPlayDeal", unfollowed := true, recurses := true, apart := false, narrowed := true }
def FnExactPlayDealUptoSaid : Prop := fnExactPlayDealUptoRow.holds Try.pinned (OpenSpec.upto fnExactPlayDealSpec)

/-- 'laws.FnExactJoinStrings', WHERE WHAT IT READS IS OF BULK AT MOST 1048576: true; the input reads as it did. -/
def fnExactJoinStringsUptoRow : OpenClaim := { program := "ytnjfkgggebhelaa", sum := "399cabcf556598314ba64a2464a25bb95173976baa102be002f883f8b1eaf537", func := "loop.example/g01203/laws.FnExactJoinStrings", spec := "fnExactJoinStrings", inPlace := ["internal/bytealg.IndexByteString", "internal/bytealg.IndexString", "internal/abi.NoEscape", "internal/bytealg.MakeNoZero"], named := ["internal/bytealg.MaxLen"], apart := false, narrowed := true }
def FnExactJoinStringsUptoSaid : Prop := fnExactJoinStringsUptoRow.holds Try.pinned (OpenSpec.upto fnExactJoinStringsSpec)

/-- 'laws.FnExactHandText', WHERE WHAT IT READS IS OF BULK AT MOST 1048576: true; the input reads as it did. -/
def fnExactHandTextUptoRow : OpenClaim := { program := "ytnjfkgggebhelaa", sum := "399cabcf556598314ba64a2464a25bb95173976baa102be002f883f8b1eaf537", func := "loop.example/g01203/laws.FnExactHandText", spec := "fnExactHandText", inPlace := ["internal/abi.NoEscape", "internal/bytealg.MakeNoZero"], unfollowed := true, recurses := true, apart := false, narrowed := true }
def FnExactHandTextUptoSaid : Prop := fnExactHandTextUptoRow.holds Try.pinned (OpenSpec.upto fnExactHandTextSpec)

/-- 'laws.FnExactFirstMap', WHERE WHAT IT READS IS OF BULK AT MOST 1048576: true; the input reads as it did. -/
def fnExactFirstMapUptoRow : OpenClaim := { program := "ytnjfkgggebhelaa", sum := "399cabcf556598314ba64a2464a25bb95173976baa102be002f883f8b1eaf537", func := "loop.example/g01203/laws.FnExactFirstMap", spec := "fnExactFirstMap", unfollowed := true, recurses := true, apart := false, narrowed := true }
def FnExactFirstMapUptoSaid : Prop := fnExactFirstMapUptoRow.holds Try.pinned (OpenSpec.upto fnExactFirstMapSpec)

/-- 'laws.FnExactAreAlike', WHERE WHAT IT READS IS OF BULK AT MOST 1048576: true; the input reads as it did. -/
def fnExactAreAlikeUptoRow : OpenClaim := { program := "ytnjfkgggebhelaa", sum := "399cabcf556598314ba64a2464a25bb95173976baa102be002f883f8b1eaf537", func := "loop.example/g01203/laws.FnExactAreAlike", spec := "fnExactAreAlike", unfollowed := true, recurses := true, apart := false, narrowed := true }
def FnExactAreAlikeUptoSaid : Prop := fnExactAreAlikeUptoRow.holds Try.pinned (OpenSpec.upto fnExactAreAlikeSpec)

end Rows
end Go.Proofs.Ytnjfkgggebhelaa
