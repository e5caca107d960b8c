/- The world of the witness: the library's pinned table laid in the world that the door leaves. -/
import Derived.Test.YtebgkdgcjpjigaaDoorDoorT
import Derived.Deep.DeepHandedRow
namespace Go.Proofs.YtebgkdgcjpjigaaDoor
set_option linter.unusedSimpArgs false
set_option linter.unusedVariables false
set_option maxRecDepth 100000
open Go.RowKit

def pinCell : DataW Unit → Value
  | .lit (.int k z) => .int k z
  | _ => .int .u8 0
def pinCells : DataW Unit → List Value
  | .agg l => l.map pinCell
  | _ => []
/-- The door's own world, unicode/utf8.first (block 4) holding what the form's constant says. -/
noncomputable def laidW (os : Os) : World :=
  { World.doorLaid Tryd.prog 400 os with heap := (World.doorLaid Tryd.prog 400 os).heap.modify 4 fun
      | .cells _ t frozen => .cells (pinCells Rows.laid_unicode_utf8_first).toArray t frozen
      | o => o }
end Go.Proofs.YtebgkdgcjpjigaaDoor
