/- Rows of one element that is read. -/
import Derived.Test.YtaagfepgbofmlaaGreatVm
set_option linter.unusedVariables false
set_option linter.unusedSimpArgs false
namespace Vc
open Go Go.RowKit Go.ChangeShapes Go.WideShapes Go.ChangeAt
/-! ### A desk from outside -/
section
variable {H : Type} {enc : TypeId × Value → H} {P : Program} {W : World}
end
end Vc
