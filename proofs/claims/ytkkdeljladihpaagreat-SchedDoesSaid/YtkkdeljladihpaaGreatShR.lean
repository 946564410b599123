/-
  One slice of numbers copied into another one, which the call holds. No program in sight.
-/
import Derived.Test.YtkkdeljladihpaaGreatShQ
import Derived.Laws.IdiomCopy
set_option linter.unusedVariables false
set_option linter.unusedSimpArgs false
namespace Go.Sh
open Go.RowKit
variable {S : Nat → Prop} {w0 w : World} {L : List It} {α : Type} {Q : α → World → Prop} {k : IntKind}
end Go.Sh
