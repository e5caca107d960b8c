/-
  No cell of these rows narrows 'for every input' (looked for: loops, veiled, ifaces, maps, wideKeys, modest, calm, conditions, laid).
  DERIVED. THE GIVEN ROWS OF THIS SEAT. 7 by the template 'for every input the law returns true; each argument reads behind the call as it read before'; 0 by the template 'total and deterministic' (their statements: YtkmnnnhnajnefaaTotals.lean).
  GIVEN WITH THE SEED: the statements are not yours to turn. If you find one false, say at which input.
  Laid BY PROGRAM, IN A SANDBOX (cutbox-rows.mjs): the forced cells as the released guide's own fill.sh prints them over the translation 41cbadb5f771f4dc… (all of the seat's roots in one cut). By AI agents, Wed Nov 11 2026. No macro, syntax, notation, axiom, sorry.
-/
import Derived.Test.YtkmnnnhnajnefaaChecked
import GoSem.Claim
import GoSem.ClaimJoined
import GoSem.ClaimMapViews
import Derived.JoinedTies
import Derived.KernelRfl
namespace Go.Proofs.Ytkmnnnhnajnefaa
/- THE CELL 'sum', in the pinned program and in every row, IS THE sha256 OF THE DUMP (.gsa) THAT YtkmnnnhnajnefaaProg.lean LOADS. Nothing in Lean hashes anything: it is a label: what it is worth is what the hold of that sum in a sandbox is worth. -/
noncomputable def Try.pinned : Pinned := { name := "ytkmnnnhnajnefaa", sum := "41cbadb5f771f4dcc438622453c610f4f53440f7b554aad4673c5b3aaff13dd4", checked := Try.checked }
namespace Rows
def none {H : Type} : Left H := { results := [], args := [] }

/-- 'laws.FnExactCountCaps': WHATEVER THE INPUT: true; the input reads as it did. -/
def fnExactCountCapsSpec : ChangeSpec := { name := "fnExactCountCaps", fn := fun _ => fun
  | [d1, d2] => { results := [.lit (.bool true)], args := [d1, d2] }
  | _ => none }
def fnExactCountCapsRow : OpenClaim := { program := "ytkmnnnhnajnefaa", sum := "41cbadb5f771f4dcc438622453c610f4f53440f7b554aad4673c5b3aaff13dd4", func := "loop.example/g01203/laws.FnExactCountCaps", spec := "fnExactCountCaps", unfollowed := true, recurses := true, apart := false }
def FnExactCountCapsSaid : Prop := fnExactCountCapsRow.holds Try.pinned (OpenSpec.ofChange fnExactCountCapsSpec)

/-- ITS FALSE NEIGHBOUR: 'it returns false'. Refute it at one input. -/
def fnExactCountCapsWrong : ChangeSpec := { name := "fnExactCountCaps", fn := fun _ => fun
  | [d1, d2] => { results := [.lit (.bool false)], args := [d1, d2] }
  | _ => none }
def FnExactCountCapsWrongFalsely : Prop := fnExactCountCapsRow.holds Try.pinned (OpenSpec.ofChange fnExactCountCapsWrong)

/-- 'laws.FnExactGreatestCap': WHATEVER THE INPUT: true; the input reads as it did. -/
def fnExactGreatestCapSpec : ChangeSpec := { name := "fnExactGreatestCap", fn := fun _ => fun
  | [d] => { results := [.lit (.bool true)], args := [d] }
  | _ => none }
def fnExactGreatestCapRow : OpenClaim := { program := "ytkmnnnhnajnefaa", sum := "41cbadb5f771f4dcc438622453c610f4f53440f7b554aad4673c5b3aaff13dd4", func := "loop.example/g01203/laws.FnExactGreatestCap", spec := "fnExactGreatestCap", unfollowed := true, recurses := true, apart := false }
def FnExactGreatestCapSaid : Prop := fnExactGreatestCapRow.holds Try.pinned (OpenSpec.ofChange fnExactGreatestCapSpec)

/-- ITS FALSE NEIGHBOUR: 'it returns false'. Refute it at one input. -/
def fnExactGreatestCapWrong : ChangeSpec := { name := "fnExactGreatestCap", fn := fun _ => fun
  | [d] => { results := [.lit (.bool false)], args := [d] }
  | _ => none }
def FnExactGreatestCapWrongFalsely : Prop := fnExactGreatestCapRow.holds Try.pinned (OpenSpec.ofChange fnExactGreatestCapWrong)

/-- 'laws.FnExactFewestDrops': WHATEVER THE INPUT: true; the input reads as it did. -/
def fnExactFewestDropsSpec : ChangeSpec := { name := "fnExactFewestDrops", fn := fun _ => fun
  | [d] => { results := [.lit (.bool true)], args := [d] }
  | _ => none }
def fnExactFewestDropsRow : OpenClaim := { program := "ytkmnnnhnajnefaa", sum := "41cbadb5f771f4dcc438622453c610f4f53440f7b554aad4673c5b3aaff13dd4", func := "loop.example/g01203/laws.FnExactFewestDrops", spec := "fnExactFewestDrops", unfollowed := true, recurses := true, apart := false }
def FnExactFewestDropsSaid : Prop := fnExactFewestDropsRow.holds Try.pinned (OpenSpec.ofChange fnExactFewestDropsSpec)

/-- ITS FALSE NEIGHBOUR: 'it returns false'. Refute it at one input. -/
def fnExactFewestDropsWrong : ChangeSpec := { name := "fnExactFewestDrops", fn := fun _ => fun
  | [d] => { results := [.lit (.bool false)], args := [d] }
  | _ => none }
def FnExactFewestDropsWrongFalsely : Prop := fnExactFewestDropsRow.holds Try.pinned (OpenSpec.ofChange fnExactFewestDropsWrong)

/-- 'laws.FnExactCycleCounts': WHATEVER THE INPUT: true; the input reads as it did. -/
def fnExactCycleCountsSpec : ChangeSpec := { name := "fnExactCycleCounts", fn := fun _ => fun
  | [d] => { results := [.lit (.bool true)], args := [d] }
  | _ => none }
def fnExactCycleCountsRow : OpenClaim := { program := "ytkmnnnhnajnefaa", sum := "41cbadb5f771f4dcc438622453c610f4f53440f7b554aad4673c5b3aaff13dd4", func := "loop.example/g01203/laws.FnExactCycleCounts", spec := "fnExactCycleCounts", unfollowed := true, recurses := true, apart := false }
def FnExactCycleCountsSaid : Prop := fnExactCycleCountsRow.holds Try.pinned (OpenSpec.ofChange fnExactCycleCountsSpec)

/-- ITS FALSE NEIGHBOUR: 'it returns false'. Refute it at one input. -/
def fnExactCycleCountsWrong : ChangeSpec := { name := "fnExactCycleCounts", fn := fun _ => fun
  | [d] => { results := [.lit (.bool false)], args := [d] }
  | _ => none }
def FnExactCycleCountsWrongFalsely : Prop := fnExactCycleCountsRow.holds Try.pinned (OpenSpec.ofChange fnExactCycleCountsWrong)

/-- 'laws.FnExactMapOrder': WHATEVER THE INPUT: true; the input reads as it did. -/
def fnExactMapOrderSpec : ChangeSpec := { name := "fnExactMapOrder", fn := fun _ => fun
  | [d] => { results := [.lit (.bool true)], args := [d] }
  | _ => none }
def fnExactMapOrderRow : OpenClaim := { program := "ytkmnnnhnajnefaa", sum := "41cbadb5f771f4dcc438622453c610f4f53440f7b554aad4673c5b3aaff13dd4", func := "loop.example/g01203/laws.FnExactMapOrder", spec := "fnExactMapOrder", unfollowed := true, recurses := true, apart := false }
def FnExactMapOrderSaid : Prop := fnExactMapOrderRow.holds Try.pinned (OpenSpec.ofChange fnExactMapOrderSpec)

/-- ITS FALSE NEIGHBOUR: 'it returns false'. Refute it at one input. -/
def fnExactMapOrderWrong : ChangeSpec := { name := "fnExactMapOrder", fn := fun _ => fun
  | [d] => { results := [.lit (.bool false)], args := [d] }
  | _ => none }
def FnExactMapOrderWrongFalsely : Prop := fnExactMapOrderRow.holds Try.pinned (OpenSpec.ofChange fnExactMapOrderWrong)

/-- 'laws.FnExactFirstMap': WHATEVER THE INPUT: true; the input reads as it did. -/
def fnExactFirstMapSpec : ChangeSpec := { name := "fnExactFirstMap", fn := fun _ => fun
  | [d1, d2] => { results := [.lit (.bool true)], args := [d1, d2] }
  | _ => none }
def fnExactFirstMapRow : OpenClaim := { program := "ytkmnnnhnajnefaa", sum := "41cbadb5f771f4dcc438622453c610f4f53440f7b554aad4673c5b3aaff13dd4", func := "loop.example/g01203/laws.FnExactFirstMap", spec := "fnExactFirstMap", unfollowed := true, recurses := true, apart := false }
def FnExactFirstMapSaid : Prop := fnExactFirstMapRow.holds Try.pinned (OpenSpec.ofChange fnExactFirstMapSpec)

/-- ITS FALSE NEIGHBOUR: 'it returns false'. Refute it at one input. -/
def fnExactFirstMapWrong : ChangeSpec := { name := "fnExactFirstMap", fn := fun _ => fun
  | [d1, d2] => { results := [.lit (.bool false)], args := [d1, d2] }
  | _ => none }
def FnExactFirstMapWrongFalsely : Prop := fnExactFirstMapRow.holds Try.pinned (OpenSpec.ofChange fnExactFirstMapWrong)

/-- 'laws.FnExactAreAlike': WHATEVER THE INPUT: true; the input reads as it did. -/
def fnExactAreAlikeSpec : ChangeSpec := { name := "fnExactAreAlike", fn := fun _ => fun
  | [d1, d2] => { results := [.lit (.bool true)], args := [d1, d2] }
  | _ => none }
def fnExactAreAlikeRow : OpenClaim := { program := "ytkmnnnhnajnefaa", sum := "41cbadb5f771f4dcc438622453c610f4f53440f7b554aad4673c5b3aaff13dd4", func := "loop.example/g01203/laws.FnExactAreAlike", spec := "fnExactAreAlike", unfollowed := true, recurses := true, apart := false }
def FnExactAreAlikeSaid : Prop := fnExactAreAlikeRow.holds Try.pinned (OpenSpec.ofChange fnExactAreAlikeSpec)

/-- ITS FALSE NEIGHBOUR: 'it returns false'. Refute it at one input. -/
def fnExactAreAlikeWrong : ChangeSpec := { name := "fnExactAreAlike", fn := fun _ => fun
  | [d1, d2] => { results := [.lit (.bool false)], args := [d1, d2] }
  | _ => none }
def FnExactAreAlikeWrongFalsely : Prop := fnExactAreAlikeRow.holds Try.pinned (OpenSpec.ofChange fnExactAreAlikeWrong)

/- THE SECOND FORM. 'bulk': how many values and letters a reading holds, each counted each time it is reached (what is shared counts as often as it is met; a slice's spare places count too). A statement '..UptoSaid' is the law's where the arguments, and the package variables that the reading takes, are together of bulk at most 1048576: NARROWER than '..Said'. Prove '..Said' where nothing that the law and all that it calls make is longer than what came in: it says more and counts as full. Else prove '..UptoSaid'. A law counts once. -/
mutual
def uptoBulk {H : Type} : DataW H → Nat
  | .lit (.string bytes) => bytes.length + 1
  | .lit _ => 1
  | .nil => 1
  | .ptr d => uptoBulk d + 1
  | .slice elems spare => uptoBulkAll elems + uptoBulkAll spare + 1
  | .agg parts => uptoBulkAll parts + 1
  | .iface _ d => uptoBulk d + 1
  | .map entries => uptoBulkEntries entries + 1
  | .held _ => 1
def uptoBulkAll {H : Type} : List (DataW H) → Nat
  | [] => 0
  | d :: r => uptoBulk d + uptoBulkAll r
def uptoBulkEntries {H : Type} : List (Lit × DataW H) → Nat
  | [] => 0
  | x :: r => uptoBulkEntry x + uptoBulkEntries r
def uptoBulkEntry {H : Type} : Lit × DataW H → Nat
  | (.string bytes, d) => bytes.length + uptoBulk d + 1
  | (_, d) => uptoBulk d + 1
 end
def uptoSmall : (H : Type) → List (DataW H) → Bool := fun _ ds => decide (uptoBulkAll ds ≤ 1048576)
def OpenSpec.upto (s : _root_.Go.ChangeSpec) : _root_.Go.OpenSpec := { _root_.Go.OpenSpec.ofChange s with cond := some uptoSmall }

/-- 'laws.FnExactCountCaps', WHERE WHAT IT READS IS OF BULK AT MOST 1048576: true; the input reads as it did. -/
def fnExactCountCapsUptoRow : OpenClaim := { program := "ytkmnnnhnajnefaa", sum := "41cbadb5f771f4dcc438622453c610f4f53440f7b554aad4673c5b3aaff13dd4", func := "loop.example/g01203/laws.FnExactCountCaps", spec := "fnExactCountCaps", unfollowed := true, recurses := true, apart := false, narrowed := true }
def FnExactCountCapsUptoSaid : Prop := fnExactCountCapsUptoRow.holds Try.pinned (OpenSpec.upto fnExactCountCapsSpec)

/-- 'laws.FnExactGreatestCap', WHERE WHAT IT READS IS OF BULK AT MOST 1048576: true; the input reads as it did. -/
def fnExactGreatestCapUptoRow : OpenClaim := { program := "ytkmnnnhnajnefaa", sum := "41cbadb5f771f4dcc438622453c610f4f53440f7b554aad4673c5b3aaff13dd4", func := "loop.example/g01203/laws.FnExactGreatestCap", spec := "fnExactGreatestCap", unfollowed := true, recurses := true, apart := false, narrowed := true }
def FnExactGreatestCapUptoSaid : Prop := fnExactGreatestCapUptoRow.holds Try.pinned (OpenSpec.upto fnExactGreatestCapSpec)

/-- 'laws.FnExactFewestDrops', WHERE WHAT IT READS IS OF BULK AT MOST 1048576: true; the input reads as it did. -/
def fnExactFewestDropsUptoRow : OpenClaim := { program := "ytkmnnnhnajnefaa", sum := "41cbadb5f771f4dcc438622453c610f4f53440f7b554aad4673c5b3aaff13dd4", func := "loop.example/g01203/laws.FnExactFewestDrops", spec := "fnExactFewestDrops", unfollowed := true, recurses := true, apart := false, narrowed := true }
def FnExactFewestDropsUptoSaid : Prop := fnExactFewestDropsUptoRow.holds Try.pinned (OpenSpec.upto fnExactFewestDropsSpec)

/-- 'laws.FnExactCycleCounts', WHERE WHAT IT READS IS OF BULK AT MOST 1048576: true; the input reads as it did. -/
def fnExactCycleCountsUptoRow : OpenClaim := { program := "ytkmnnnhnajnefaa", sum := "41cbadb5f771f4dcc438622453c610f4f53440f7b554aad4673c5b3aaff13dd4", func := "loop.example/g01203/laws.FnExactCycleCounts", spec := "fnExactCycleCounts", unfollowed := true, recurses := true, apart := false, narrowed := true }
def FnExactCycleCountsUptoSaid : Prop := fnExactCycleCountsUptoRow.holds Try.pinned (OpenSpec.upto fnExactCycleCountsSpec)

/-- 'laws.FnExactMapOrder', WHERE WHAT IT READS IS OF BULK AT MOST 1048576: true; the input reads as it did. -/
def fnExactMapOrderUptoRow : OpenClaim := { program := "ytkmnnnhnajnefaa", sum := "41cbadb5f771f4dcc438622453c610f4f53440f7b554aad4673c5b3aaff13dd4", func := "loop.example/g01203/laws.FnExactMapOrder", spec := "fnExactMapOrder", unfollowed := true, recurses := true, apart := false, narrowed := true }
def FnExactMapOrderUptoSaid : Prop := fnExactMapOrderUptoRow.holds Try.pinned (OpenSpec.upto fnExactMapOrderSpec)

/-- 'laws.FnExactFirstMap', WHERE WHAT IT READS IS OF BULK AT MOST 1048576: true; the input reads as it did. -/
def fnExactFirstMapUptoRow : OpenClaim := { program := "ytkmnnnhnajnefaa", sum := "41cbadb5f771f4dcc438622453c610f4f53440f7b554aad4673c5b3aaff13dd4", func := "loop.example/g01203/laws.FnExactFirstMap", spec := "fnExactFirstMap", unfollowed := true, recurses := true, apart := false, narrowed := true }
def FnExactFirstMapUptoSaid : Prop := fnExactFirstMapUptoRow.holds Try.pinned (OpenSpec.upto fnExactFirstMapSpec)

/-- 'laws.FnExactAreAlike', WHERE WHAT IT READS IS OF BULK AT MOST 1048576: true; the input reads as it did. -/
def fnExactAreAlikeUptoRow : OpenClaim := { program := "ytkmnnnhnajnefaa", sum := "41cbadb5f771f4dcc438622453c610f4f53440f7b554aad4673c5b3aaff13dd4", func := "loop.example/g01203/laws.FnExactAreAlike", spec := "fnExactAreAlike", unfollowed := true, recurses := true, apart := false, narrowed := true }
def FnExactAreAlikeUptoSaid : Prop := fnExactAreAlikeUptoRow.holds Try.pinned (OpenSpec.upto fnExactAreAlikeSpec)

end Rows
end Go.Proofs.Ytkmnnnhnajnefaa
