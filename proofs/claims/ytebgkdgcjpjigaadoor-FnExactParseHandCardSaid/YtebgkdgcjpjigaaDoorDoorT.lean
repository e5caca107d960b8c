/- What the rows' condition on the listed variables gives the walks. -/
import Derived.Test.YtebgkdgcjpjigaaDoorFmt
import Derived.Test.YtebgkdgcjpjigaaDoorTie
import Derived.Test.YtebgkdgcjpjigaaDoorCards
import Derived.Test.YtebgkdgcjpjigaaDoorRow
import Derived.SevenTiedAt
import Derived.LaidMore
import Derived.MakeChecks
import Derived.Stop.LaidErr
namespace Go.Proofs.YtebgkdgcjpjigaaDoor
set_option linter.unusedSimpArgs false
set_option linter.unusedVariables false
set_option maxRecDepth 100000
open Go.RowKit

theorem gPow : Tryd.prog.globalNamed "internal/strconv.uint64pow10" = some 3 := by kernel_rfl
theorem tabP_of {W : World} {rest : List (String × DataW Unit)} (h : laidMet Tryd.prog (("math/bits.deBruijn32tab", Rows.laid_math_bits_deBruijn32tab) :: ("math/bits.deBruijn64tab", Rows.laid_math_bits_deBruijn64tab) :: ("internal/strconv.uint64pow10", Rows.laid_internal_strconv_uint64pow10) :: rest) W) : TabP W :=
  Lib.tabBelow_of_tabIs (Lib.tabIs_of_head (t := 92) (e := 75) (n := 20) gPow (by kernel_rfl) Tryd.underlying92 Tryd.underlying75 (by kernel_rfl) (by kernel_rfl) h.tail.tail)
end Go.Proofs.YtebgkdgcjpjigaaDoor
