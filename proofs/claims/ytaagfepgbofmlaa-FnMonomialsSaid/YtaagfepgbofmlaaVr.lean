/- A map as what a row's element reads as: rows of maps. -/
import Derived.Test.YtaagfepgbofmlaaVo
set_option linter.unusedVariables false
set_option linter.unusedSimpArgs false
namespace Vc
open Go Go.RowKit
section
variable {α β : Type}
end
/-! ### A derivation with sums as images: a struct with a pointer to an algebra -/
structure Derive where
  alg : Alg
  drop : Int
  images : List (List (A8 × Int))
  deriving Inhabited
/-! ### A row of the call's own whose elements are maps of the call's own: the maps' blocks are said -/
section
variable {α β : Type} {kv : α → Value} {vv : β → Value}
end
end Vc
