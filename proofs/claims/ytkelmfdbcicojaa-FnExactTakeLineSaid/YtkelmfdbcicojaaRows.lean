/-
  No cell of these rows narrows 'for every input' (looked for: loops, veiled, ifaces, maps, wideKeys, modest, calm, conditions, laid).
  DERIVED. THE GIVEN ROWS OF THIS SEAT. 14 by the template 'for every input the law returns true; each argument reads behind the call as it read before'; 0 by the template 'total and deterministic' (their statements: YtkelmfdbcicojaaTotals.lean).
  GIVEN WITH THE SEED: the statements are not yours to turn. If you find one false, say at which input.
  Laid BY PROGRAM, IN A SANDBOX (cutbox-rows.mjs): the forced cells as the released guide's own fill.sh prints them over the translation 16802777196c79a6… (all of the seat's roots in one cut). By AI agents, Wed Nov 11 2026. No macro, syntax, notation, axiom, sorry.
-/
import Derived.Test.YtkelmfdbcicojaaChecked
import GoSem.Claim
import GoSem.ClaimJoined
import GoSem.ClaimMapViews
import Derived.JoinedTies
import Derived.KernelRfl
namespace Go.Proofs.Ytkelmfdbcicojaa
/- THE CELL 'sum', in the pinned program and in every row, IS THE sha256 OF THE DUMP (.gsa) THAT YtkelmfdbcicojaaProg.lean LOADS. Nothing in Lean hashes anything: it is a label: what it is worth is what the hold of that sum in a sandbox is worth. -/
noncomputable def Try.pinned : Pinned := { name := "ytkelmfdbcicojaa", sum := "16802777196c79a69ece29ef887e09df177fa23dc40c73dc22ab3bddf2cb9ab6", checked := Try.checked }
namespace Rows
def none {H : Type} : Left H := { results := [], args := [] }

/-- 'laws.FnExactLayMore': WHATEVER THE INPUT: true; the input reads as it did. -/
def fnExactLayMoreSpec : ChangeSpec := { name := "fnExactLayMore", fn := fun _ => fun
  | [d] => { results := [.lit (.bool true)], args := [d] }
  | _ => none }
def fnExactLayMoreRow : OpenClaim := { program := "ytkelmfdbcicojaa", sum := "16802777196c79a69ece29ef887e09df177fa23dc40c73dc22ab3bddf2cb9ab6", func := "loop.example/g01203/laws.FnExactLayMore", spec := "fnExactLayMore", apart := false }
def FnExactLayMoreSaid : Prop := fnExactLayMoreRow.holds Try.pinned (OpenSpec.ofChange fnExactLayMoreSpec)

/-- ITS FALSE NEIGHBOUR: 'it returns false'. Refute it at one input. -/
def fnExactLayMoreWrong : ChangeSpec := { name := "fnExactLayMore", fn := fun _ => fun
  | [d] => { results := [.lit (.bool false)], args := [d] }
  | _ => none }
def FnExactLayMoreWrongFalsely : Prop := fnExactLayMoreRow.holds Try.pinned (OpenSpec.ofChange fnExactLayMoreWrong)

/-- 'laws.FnExactTakeLine': WHATEVER THE INPUT: true; the input reads as it did. -/
def fnExactTakeLineSpec : ChangeSpec := { name := "fnExactTakeLine", fn := fun _ => fun
  | [d1, d2] => { results := [.lit (.bool true)], args := [d1, d2] }
  | _ => none }
def fnExactTakeLineRow : OpenClaim := { program := "ytkelmfdbcicojaa", sum := "16802777196c79a69ece29ef887e09df177fa23dc40c73dc22ab3bddf2cb9ab6", func := "loop.example/g01203/laws.FnExactTakeLine", spec := "fnExactTakeLine", apart := false }
def FnExactTakeLineSaid : Prop := fnExactTakeLineRow.holds Try.pinned (OpenSpec.ofChange fnExactTakeLineSpec)

/-- ITS FALSE NEIGHBOUR: 'it returns false'. Refute it at one input. -/
def fnExactTakeLineWrong : ChangeSpec := { name := "fnExactTakeLine", fn := fun _ => fun
  | [d1, d2] => { results := [.lit (.bool false)], args := [d1, d2] }
  | _ => none }
def FnExactTakeLineWrongFalsely : Prop := fnExactTakeLineRow.holds Try.pinned (OpenSpec.ofChange fnExactTakeLineWrong)

/-- 'laws.FnExactDealStep': WHATEVER THE INPUT: true; the input reads as it did. -/
def fnExactDealStepSpec : ChangeSpec := { name := "fnExactDealStep", fn := fun _ => fun
  | [d] => { results := [.lit (.bool true)], args := [d] }
  | _ => none }
def fnExactDealStepRow : OpenClaim := { program := "ytkelmfdbcicojaa", sum := "16802777196c79a69ece29ef887e09df177fa23dc40c73dc22ab3bddf2cb9ab6", func := "loop.example/g01203/laws.FnExactDealStep", spec := "fnExactDealStep", apart := false }
def FnExactDealStepSaid : Prop := fnExactDealStepRow.holds Try.pinned (OpenSpec.ofChange fnExactDealStepSpec)

/-- ITS FALSE NEIGHBOUR: 'it returns false'. Refute it at one input. -/
def fnExactDealStepWrong : ChangeSpec := { name := "fnExactDealStep", fn := fun _ => fun
  | [d] => { results := [.lit (.bool false)], args := [d] }
  | _ => none }
def FnExactDealStepWrongFalsely : Prop := fnExactDealStepRow.holds Try.pinned (OpenSpec.ofChange fnExactDealStepWrong)

/-- 'laws.FnExactDealSizes': WHATEVER THE INPUT: true; the input reads as it did. -/
def fnExactDealSizesSpec : ChangeSpec := { name := "fnExactDealSizes", fn := fun _ => fun
  | [d] => { results := [.lit (.bool true)], args := [d] }
  | _ => none }
def fnExactDealSizesRow : OpenClaim := { program := "ytkelmfdbcicojaa", sum := "16802777196c79a69ece29ef887e09df177fa23dc40c73dc22ab3bddf2cb9ab6", func := "loop.example/g01203/laws.FnExactDealSizes", spec := "fnExactDealSizes", apart := false }
def FnExactDealSizesSaid : Prop := fnExactDealSizesRow.holds Try.pinned (OpenSpec.ofChange fnExactDealSizesSpec)

/-- ITS FALSE NEIGHBOUR: 'it returns false'. Refute it at one input. -/
def fnExactDealSizesWrong : ChangeSpec := { name := "fnExactDealSizes", fn := fun _ => fun
  | [d] => { results := [.lit (.bool false)], args := [d] }
  | _ => none }
def FnExactDealSizesWrongFalsely : Prop := fnExactDealSizesRow.holds Try.pinned (OpenSpec.ofChange fnExactDealSizesWrong)

/-- 'laws.FnExactCountCaps': WHATEVER THE INPUT: true; the input reads as it did. -/
def fnExactCountCapsSpec : ChangeSpec := { name := "fnExactCountCaps", fn := fun _ => fun
  | [d1, d2] => { results := [.lit (.bool true)], args := [d1, d2] }
  | _ => none }
def fnExactCountCapsRow : OpenClaim := { program := "ytkelmfdbcicojaa", sum := "16802777196c79a69ece29ef887e09df177fa23dc40c73dc22ab3bddf2cb9ab6", func := "loop.example/g01203/laws.FnExactCountCaps", spec := "fnExactCountCaps", unfollowed := true, recurses := true, apart := false }
def FnExactCountCapsSaid : Prop := fnExactCountCapsRow.holds Try.pinned (OpenSpec.ofChange fnExactCountCapsSpec)

/-- ITS FALSE NEIGHBOUR: 'it returns false'. Refute it at one input. -/
def fnExactCountCapsWrong : ChangeSpec := { name := "fnExactCountCaps", fn := fun _ => fun
  | [d1, d2] => { results := [.lit (.bool false)], args := [d1, d2] }
  | _ => none }
def FnExactCountCapsWrongFalsely : Prop := fnExactCountCapsRow.holds Try.pinned (OpenSpec.ofChange fnExactCountCapsWrong)

/-- 'laws.FnExactGreatestCap': WHATEVER THE INPUT: true; the input reads as it did. -/
def fnExactGreatestCapSpec : ChangeSpec := { name := "fnExactGreatestCap", fn := fun _ => fun
  | [d] => { results := [.lit (.bool true)], args := [d] }
  | _ => none }
def fnExactGreatestCapRow : OpenClaim := { program := "ytkelmfdbcicojaa", sum := "16802777196c79a69ece29ef887e09df177fa23dc40c73dc22ab3bddf2cb9ab6", func := "loop.example/g01203/laws.FnExactGreatestCap", spec := "fnExactGreatestCap", unfollowed := true, recurses := true, apart := false }
def FnExactGreatestCapSaid : Prop := fnExactGreatestCapRow.holds Try.pinned (OpenSpec.ofChange fnExactGreatestCapSpec)

/-- ITS FALSE NEIGHBOUR: 'it returns false'. Refute it at one input. -/
def fnExactGreatestCapWrong : ChangeSpec := { name := "fnExactGreatestCap", fn := fun _ => fun
  | [d] => { results := [.lit (.bool false)], args := [d] }
  | _ => none }
def FnExactGreatestCapWrongFalsely : Prop := fnExactGreatestCapRow.holds Try.pinned (OpenSpec.ofChange fnExactGreatestCapWrong)

/-- 'laws.FnExactFewestDrops': WHATEVER THE INPUT: true; the input reads as it did. -/
def fnExactFewestDropsSpec : ChangeSpec := { name := "fnExactFewestDrops", fn := fun _ => fun
  | [d] => { results := [.lit (.bool true)], args := [d] }
  | _ => none }
def fnExactFewestDropsRow : OpenClaim := { program := "ytkelmfdbcicojaa", sum := "16802777196c79a69ece29ef887e09df177fa23dc40c73dc22ab3bddf2cb9ab6", func := "loop.example/g01203/laws.FnExactFewestDrops", spec := "fnExactFewestDrops", unfollowed := true, recurses := true, apart := false }
def FnExactFewestDropsSaid : Prop := fnExactFewestDropsRow.holds Try.pinned (OpenSpec.ofChange fnExactFewestDropsSpec)

/-- ITS FALSE NEIGHBOUR: 'it returns false'. Refute it at one input. -/
def fnExactFewestDropsWrong : ChangeSpec := { name := "fnExactFewestDrops", fn := fun _ => fun
  | [d] => { results := [.lit (.bool false)], args := [d] }
  | _ => none }
def FnExactFewestDropsWrongFalsely : Prop := fnExactFewestDropsRow.holds Try.pinned (OpenSpec.ofChange fnExactFewestDropsWrong)

/-- 'laws.FnExactShiftTo': WHATEVER THE INPUT: true; the input reads as it did. -/
def fnExactShiftToSpec : ChangeSpec := { name := "fnExactShiftTo", fn := fun _ => fun
  | [d1, d2] => { results := [.lit (.bool true)], args := [d1, d2] }
  | _ => none }
def fnExactShiftToRow : OpenClaim := { program := "ytkelmfdbcicojaa", sum := "16802777196c79a69ece29ef887e09df177fa23dc40c73dc22ab3bddf2cb9ab6", func := "loop.example/g01203/laws.FnExactShiftTo", spec := "fnExactShiftTo", unfollowed := true, recurses := true, apart := false }
def FnExactShiftToSaid : Prop := fnExactShiftToRow.holds Try.pinned (OpenSpec.ofChange fnExactShiftToSpec)

/-- ITS FALSE NEIGHBOUR: 'it returns false'. Refute it at one input. -/
def fnExactShiftToWrong : ChangeSpec := { name := "fnExactShiftTo", fn := fun _ => fun
  | [d1, d2] => { results := [.lit (.bool false)], args := [d1, d2] }
  | _ => none }
def FnExactShiftToWrongFalsely : Prop := fnExactShiftToRow.holds Try.pinned (OpenSpec.ofChange fnExactShiftToWrong)

/-- 'laws.FnExactIsMap': WHATEVER THE INPUT: true; the input reads as it did. -/
def fnExactIsMapSpec : ChangeSpec := { name := "fnExactIsMap", fn := fun _ => fun
  | [d] => { results := [.lit (.bool true)], args := [d] }
  | _ => none }
def fnExactIsMapRow : OpenClaim := { program := "ytkelmfdbcicojaa", sum := "16802777196c79a69ece29ef887e09df177fa23dc40c73dc22ab3bddf2cb9ab6", func := "loop.example/g01203/laws.FnExactIsMap", spec := "fnExactIsMap", unfollowed := true, recurses := true, apart := false }
def FnExactIsMapSaid : Prop := fnExactIsMapRow.holds Try.pinned (OpenSpec.ofChange fnExactIsMapSpec)

/-- ITS FALSE NEIGHBOUR: 'it returns false'. Refute it at one input. -/
def fnExactIsMapWrong : ChangeSpec := { name := "fnExactIsMap", fn := fun _ => fun
  | [d] => { results := [.lit (.bool false)], args := [d] }
  | _ => none }
def FnExactIsMapWrongFalsely : Prop := fnExactIsMapRow.holds Try.pinned (OpenSpec.ofChange fnExactIsMapWrong)

/-- 'laws.FnExactMapCard': WHATEVER THE INPUT: true; the input reads as it did. -/
def fnExactMapCardSpec : ChangeSpec := { name := "fnExactMapCard", fn := fun _ => fun
  | [d1, d2] => { results := [.lit (.bool true)], args := [d1, d2] }
  | _ => none }
def fnExactMapCardRow : OpenClaim := { program := "ytkelmfdbcicojaa", sum := "16802777196c79a69ece29ef887e09df177fa23dc40c73dc22ab3bddf2cb9ab6", func := "loop.example/g01203/laws.FnExactMapCard", spec := "fnExactMapCard", unfollowed := true, recurses := true, apart := false }
def FnExactMapCardSaid : Prop := fnExactMapCardRow.holds Try.pinned (OpenSpec.ofChange fnExactMapCardSpec)

/-- ITS FALSE NEIGHBOUR: 'it returns false'. Refute it at one input. -/
def fnExactMapCardWrong : ChangeSpec := { name := "fnExactMapCard", fn := fun _ => fun
  | [d1, d2] => { results := [.lit (.bool false)], args := [d1, d2] }
  | _ => none }
def FnExactMapCardWrongFalsely : Prop := fnExactMapCardRow.holds Try.pinned (OpenSpec.ofChange fnExactMapCardWrong)

/-- 'laws.FnExactMapBack': WHATEVER THE INPUT: true; the input reads as it did. -/
def fnExactMapBackSpec : ChangeSpec := { name := "fnExactMapBack", fn := fun _ => fun
  | [d] => { results := [.lit (.bool true)], args := [d] }
  | _ => none }
def fnExactMapBackRow : OpenClaim := { program := "ytkelmfdbcicojaa", sum := "16802777196c79a69ece29ef887e09df177fa23dc40c73dc22ab3bddf2cb9ab6", func := "loop.example/g01203/laws.FnExactMapBack", spec := "fnExactMapBack", unfollowed := true, recurses := true, apart := false }
def FnExactMapBackSaid : Prop := fnExactMapBackRow.holds Try.pinned (OpenSpec.ofChange fnExactMapBackSpec)

/-- ITS FALSE NEIGHBOUR: 'it returns false'. Refute it at one input. -/
def fnExactMapBackWrong : ChangeSpec := { name := "fnExactMapBack", fn := fun _ => fun
  | [d] => { results := [.lit (.bool false)], args := [d] }
  | _ => none }
def FnExactMapBackWrongFalsely : Prop := fnExactMapBackRow.holds Try.pinned (OpenSpec.ofChange fnExactMapBackWrong)

/-- 'laws.FnExactMapBehind': WHATEVER THE INPUT: true; the input reads as it did. -/
def fnExactMapBehindSpec : ChangeSpec := { name := "fnExactMapBehind", fn := fun _ => fun
  | [d1, d2] => { results := [.lit (.bool true)], args := [d1, d2] }
  | _ => none }
def fnExactMapBehindRow : OpenClaim := { program := "ytkelmfdbcicojaa", sum := "16802777196c79a69ece29ef887e09df177fa23dc40c73dc22ab3bddf2cb9ab6", func := "loop.example/g01203/laws.FnExactMapBehind", spec := "fnExactMapBehind", unfollowed := true, recurses := true, apart := false }
def FnExactMapBehindSaid : Prop := fnExactMapBehindRow.holds Try.pinned (OpenSpec.ofChange fnExactMapBehindSpec)

/-- ITS FALSE NEIGHBOUR: 'it returns false'. Refute it at one input. -/
def fnExactMapBehindWrong : ChangeSpec := { name := "fnExactMapBehind", fn := fun _ => fun
  | [d1, d2] => { results := [.lit (.bool false)], args := [d1, d2] }
  | _ => none }
def FnExactMapBehindWrongFalsely : Prop := fnExactMapBehindRow.holds Try.pinned (OpenSpec.ofChange fnExactMapBehindWrong)

/-- 'laws.FnExactMapOrder': WHATEVER THE INPUT: true; the input reads as it did. -/
def fnExactMapOrderSpec : ChangeSpec := { name := "fnExactMapOrder", fn := fun _ => fun
  | [d] => { results := [.lit (.bool true)], args := [d] }
  | _ => none }
def fnExactMapOrderRow : OpenClaim := { program := "ytkelmfdbcicojaa", sum := "16802777196c79a69ece29ef887e09df177fa23dc40c73dc22ab3bddf2cb9ab6", func := "loop.example/g01203/laws.FnExactMapOrder", spec := "fnExactMapOrder", unfollowed := true, recurses := true, apart := false }
def FnExactMapOrderSaid : Prop := fnExactMapOrderRow.holds Try.pinned (OpenSpec.ofChange fnExactMapOrderSpec)

/-- ITS FALSE NEIGHBOUR: 'it returns false'. Refute it at one input. -/
def fnExactMapOrderWrong : ChangeSpec := { name := "fnExactMapOrder", fn := fun _ => fun
  | [d] => { results := [.lit (.bool false)], args := [d] }
  | _ => none }
def FnExactMapOrderWrongFalsely : Prop := fnExactMapOrderRow.holds Try.pinned (OpenSpec.ofChange fnExactMapOrderWrong)

/-- 'laws.FnExactCycleCounts': WHATEVER THE INPUT: true; the input reads as it did. -/
def fnExactCycleCountsSpec : ChangeSpec := { name := "fnExactCycleCounts", fn := fun _ => fun
  | [d] => { results := [.lit (.bool true)], args := [d] }
  | _ => none }
def fnExactCycleCountsRow : OpenClaim := { program := "ytkelmfdbcicojaa", sum := "16802777196c79a69ece29ef887e09df177fa23dc40c73dc22ab3bddf2cb9ab6", func := "loop.example/g01203/laws.FnExactCycleCounts", spec := "fnExactCycleCounts", unfollowed := true, recurses := true, apart := false }
def FnExactCycleCountsSaid : Prop := fnExactCycleCountsRow.holds Try.pinned (OpenSpec.ofChange fnExactCycleCountsSpec)

/-- ITS FALSE NEIGHBOUR: 'it returns false'. Refute it at one input. -/
def fnExactCycleCountsWrong : ChangeSpec := { name := "fnExactCycleCounts", fn := fun _ => fun
  | [d] => { results := [.lit (.bool false)], args := [d] }
  | _ => none }
def FnExactCycleCountsWrongFalsely : Prop := fnExactCycleCountsRow.holds Try.pinned (OpenSpec.ofChange fnExactCycleCountsWrong)

/- THE SECOND FORM. 'bulk': how many values and letters a reading holds, each counted each time it is reached (what is shared counts as often as it is met; a slice's spare places count too). A statement '..UptoSaid' is the law's where the arguments, and the package variables that the reading takes, are together of bulk at most 1048576: NARROWER than '..Said'. Prove '..Said' where nothing that the law and all that it calls make is longer than what came in: it says more and counts as full. Else prove '..UptoSaid'. A law counts once. -/
mutual
def uptoBulk {H : Type} : DataW H → Nat
  | .lit (.string bytes) => bytes.length + 1
  | .lit _ => 1
  | .nil => 1
  | .ptr d => uptoBulk d + 1
  | .slice elems spare => uptoBulkAll elems + uptoBulkAll spare + 1
  | .agg parts => uptoBulkAll parts + 1
  | .iface _ d => uptoBulk d + 1
  | .map entries => uptoBulkEntries entries + 1
  | .held _ => 1
def uptoBulkAll {H : Type} : List (DataW H) → Nat
  | [] => 0
  | d :: r => uptoBulk d + uptoBulkAll r
def uptoBulkEntries {H : Type} : List (Lit × DataW H) → Nat
  | [] => 0
  | x :: r => uptoBulkEntry x + uptoBulkEntries r
def uptoBulkEntry {H : Type} : Lit × DataW H → Nat
  | (.string bytes, d) => bytes.length + uptoBulk d + 1
  | (_, d) => uptoBulk d + 1
 end
def uptoSmall : (H : Type) → List (DataW H) → Bool := fun _ ds => decide (uptoBulkAll ds ≤ 1048576)
def OpenSpec.upto (s : _root_.Go.ChangeSpec) : _root_.Go.OpenSpec := { _root_.Go.OpenSpec.ofChange s with cond := some uptoSmall }

/-- 'laws.FnExactLayMore', WHERE WHAT IT READS IS OF BULK AT MOST 1048576: true; the input reads as it did. -/
def fnExactLayMoreUptoRow : OpenClaim := { program := "ytkelmfdbcicojaa", sum := "16802777196c79a69ece29ef887e09df177fa23dc40c73dc22ab3bddf2cb9ab6", func := "loop.example/g01203/laws.FnExactLayMore", spec := "fnExactLayMore", apart := false, narrowed := true }
def FnExactLayMoreUptoSaid : Prop := fnExactLayMoreUptoRow.holds Try.pinned (OpenSpec.upto fnExactLayMoreSpec)

/-- 'laws.FnExactTakeLine', WHERE WHAT IT READS IS OF BULK AT MOST 1048576: true; the input reads as it did. -/
def fnExactTakeLineUptoRow : OpenClaim := { program := "ytkelmfdbcicojaa", sum := "16802777196c79a69ece29ef887e09df177fa23dc40c73dc22ab3bddf2cb9ab6", func := "loop.example/g01203/laws.FnExactTakeLine", spec := "fnExactTakeLine", apart := false, narrowed := true }
def FnExactTakeLineUptoSaid : Prop := fnExactTakeLineUptoRow.holds Try.pinned (OpenSpec.upto fnExactTakeLineSpec)

/-- 'laws.FnExactDealStep', WHERE WHAT IT READS IS OF BULK AT MOST 1048576: true; the input reads as it did. -/
def fnExactDealStepUptoRow : OpenClaim := { program := "ytkelmfdbcicojaa", sum := "16802777196c79a69ece29ef887e09df177fa23dc40c73dc22ab3bddf2cb9ab6", func := "loop.example/g01203/laws.FnExactDealStep", spec := "fnExactDealStep", apart := false, narrowed := true }
def FnExactDealStepUptoSaid : Prop := fnExactDealStepUptoRow.holds Try.pinned (OpenSpec.upto fnExactDealStepSpec)

/-- 'laws.FnExactDealSizes', WHERE WHAT IT READS IS OF BULK AT MOST 1048576: true; the input reads as it did. -/
def fnExactDealSizesUptoRow : OpenClaim := { program := "ytkelmfdbcicojaa", sum := "16802777196c79a69ece29ef887e09df177fa23dc40c73dc22ab3bddf2cb9ab6", func := "loop.example/g01203/laws.FnExactDealSizes", spec := "fnExactDealSizes", apart := false, narrowed := true }
def FnExactDealSizesUptoSaid : Prop := fnExactDealSizesUptoRow.holds Try.pinned (OpenSpec.upto fnExactDealSizesSpec)

/-- 'laws.FnExactCountCaps', WHERE WHAT IT READS IS OF BULK AT MOST 1048576: true; the input reads as it did. -/
def fnExactCountCapsUptoRow : OpenClaim := { program := "ytkelmfdbcicojaa", sum := "16802777196c79a69ece29ef887e09df177fa23dc40c73dc22ab3bddf2cb9ab6", func := "loop.example/g01203/laws.FnExactCountCaps", spec := "fnExactCountCaps", unfollowed := true, recurses := true, apart := false, narrowed := true }
def FnExactCountCapsUptoSaid : Prop := fnExactCountCapsUptoRow.holds Try.pinned (OpenSpec.upto fnExactCountCapsSpec)

/-- 'laws.FnExactGreatestCap', WHERE WHAT IT READS IS OF BULK AT MOST 1048576: true; the input reads as it did. -/
def fnExactGreatestCapUptoRow : OpenClaim := { program := "ytkelmfdbcicojaa", sum := "16802777196c79a69ece29ef887e09df177fa23dc40c73dc22ab3bddf2cb9ab6", func := "loop.example/g01203/laws.FnExactGreatestCap", spec := "fnExactGreatestCap", unfollowed := true, recurses := true, apart := false, narrowed := true }
def FnExactGreatestCapUptoSaid : Prop := fnExactGreatestCapUptoRow.holds Try.pinned (OpenSpec.upto fnExactGreatestCapSpec)

/-- 'laws.FnExactFewestDrops', WHERE WHAT IT READS IS OF BULK AT MOST 1048576: true; the input reads as it did. -/
def fnExactFewestDropsUptoRow : OpenClaim := { program := "ytkelmfdbcicojaa", sum := "16802777196c79a69ece29ef887e09df177fa23dc40c73dc22ab3bddf2cb9ab6", func := "loop.example/g01203/laws.FnExactFewestDrops", spec := "fnExactFewestDrops", unfollowed := true, recurses := true, apart := false, narrowed := true }
def FnExactFewestDropsUptoSaid : Prop := fnExactFewestDropsUptoRow.holds Try.pinned (OpenSpec.upto fnExactFewestDropsSpec)

/-- 'laws.FnExactShiftTo', WHERE WHAT IT READS IS OF BULK AT MOST 1048576: true; the input reads as it did. -/
def fnExactShiftToUptoRow : OpenClaim := { program := "ytkelmfdbcicojaa", sum := "16802777196c79a69ece29ef887e09df177fa23dc40c73dc22ab3bddf2cb9ab6", func := "loop.example/g01203/laws.FnExactShiftTo", spec := "fnExactShiftTo", unfollowed := true, recurses := true, apart := false, narrowed := true }
def FnExactShiftToUptoSaid : Prop := fnExactShiftToUptoRow.holds Try.pinned (OpenSpec.upto fnExactShiftToSpec)

/-- 'laws.FnExactIsMap', WHERE WHAT IT READS IS OF BULK AT MOST 1048576: true; the input reads as it did. -/
def fnExactIsMapUptoRow : OpenClaim := { program := "ytkelmfdbcicojaa", sum := "16802777196c79a69ece29ef887e09df177fa23dc40c73dc22ab3bddf2cb9ab6", func := "loop.example/g01203/laws.FnExactIsMap", spec := "fnExactIsMap", unfollowed := true, recurses := true, apart := false, narrowed := true }
def FnExactIsMapUptoSaid : Prop := fnExactIsMapUptoRow.holds Try.pinned (OpenSpec.upto fnExactIsMapSpec)

/-- 'laws.FnExactMapCard', WHERE WHAT IT READS IS OF BULK AT MOST 1048576: true; the input reads as it did. -/
def fnExactMapCardUptoRow : OpenClaim := { program := "ytkelmfdbcicojaa", sum := "16802777196c79a69ece29ef887e09df177fa23dc40c73dc22ab3bddf2cb9ab6", func := "loop.example/g01203/laws.FnExactMapCard", spec := "fnExactMapCard", unfollowed := true, recurses := true, apart := false, narrowed := true }
def FnExactMapCardUptoSaid : Prop := fnExactMapCardUptoRow.holds Try.pinned (OpenSpec.upto fnExactMapCardSpec)

/-- 'laws.FnExactMapBack', WHERE WHAT IT READS IS OF BULK AT MOST 1048576: true; the input reads as it did. -/
def fnExactMapBackUptoRow : OpenClaim := { program := "ytkelmfdbcicojaa", sum := "16802777196c79a69ece29ef887e09df177fa23dc40c73dc22ab3bddf2cb9ab6", func := "loop.example/g01203/laws.FnExactMapBack", spec := "fnExactMapBack", unfollowed := true, recurses := true, apart := false, narrowed := true }
def FnExactMapBackUptoSaid : Prop := fnExactMapBackUptoRow.holds Try.pinned (OpenSpec.upto fnExactMapBackSpec)

/-- 'laws.FnExactMapBehind', WHERE WHAT IT READS IS OF BULK AT MOST 1048576: true; the input reads as it did. -/
def fnExactMapBehindUptoRow : OpenClaim := { program := "ytkelmfdbcicojaa", sum := "16802777196c79a69ece29ef887e09df177fa23dc40c73dc22ab3bddf2cb9ab6", func := "loop.example/g01203/laws.FnExactMapBehind", spec := "fnExactMapBehind", unfollowed := true, recurses := true, apart := false, narrowed := true }
def FnExactMapBehindUptoSaid : Prop := fnExactMapBehindUptoRow.holds Try.pinned (OpenSpec.upto fnExactMapBehindSpec)

/-- 'laws.FnExactMapOrder', WHERE WHAT IT READS IS OF BULK AT MOST 1048576: true; the input reads as it did. -/
def fnExactMapOrderUptoRow : OpenClaim := { program := "ytkelmfdbcicojaa", sum := "16802777196c79a69ece29ef887e09df177fa23dc40c73dc22ab3bddf2cb9ab6", func := "loop.example/g01203/laws.FnExactMapOrder", spec := "fnExactMapOrder", unfollowed := true, recurses := true, apart := false, narrowed := true }
def FnExactMapOrderUptoSaid : Prop := fnExactMapOrderUptoRow.holds Try.pinned (OpenSpec.upto fnExactMapOrderSpec)

/-- 'laws.FnExactCycleCounts', WHERE WHAT IT READS IS OF BULK AT MOST 1048576: true; the input reads as it did. -/
def fnExactCycleCountsUptoRow : OpenClaim := { program := "ytkelmfdbcicojaa", sum := "16802777196c79a69ece29ef887e09df177fa23dc40c73dc22ab3bddf2cb9ab6", func := "loop.example/g01203/laws.FnExactCycleCounts", spec := "fnExactCycleCounts", unfollowed := true, recurses := true, apart := false, narrowed := true }
def FnExactCycleCountsUptoSaid : Prop := fnExactCycleCountsUptoRow.holds Try.pinned (OpenSpec.upto fnExactCycleCountsSpec)

end Rows
end Go.Proofs.Ytkelmfdbcicojaa
