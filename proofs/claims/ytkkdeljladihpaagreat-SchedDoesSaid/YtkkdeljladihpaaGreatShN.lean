/-
  An argument that is a slice of numbers, as such.
-/
import Derived.Test.YtkkdeljladihpaaGreatShM
set_option linter.unusedVariables false
set_option linter.unusedSimpArgs false
namespace Go.Sh
open Go.RowKit
end Go.Sh
