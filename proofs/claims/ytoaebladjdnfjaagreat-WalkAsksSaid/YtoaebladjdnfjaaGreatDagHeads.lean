import Derived.Test.YtoaebladjdnfjaaGreatDagAdd
import Derived.Test.YtoaebladjdnfjaaGreatKeys
set_option linter.unusedSimpArgs false
set_option linter.unusedVariables false
/-
  Heads, Clone.
-/
namespace Go.Proofs.YtoaebladjdnfjaaGreat
open Go.RowKit

theorem sorted_heads (g : G) : (heads g).Pairwise BLt := sorted_ofL _

end Go.Proofs.YtoaebladjdnfjaaGreat
