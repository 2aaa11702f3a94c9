/- Plain laws: the differential of a form. -/
import Derived.Test.YtaagfepgbofmlaaGreatVe0
set_option linter.unusedVariables false
set_option linter.unusedSimpArgs false
namespace Go.Proofs.YtaagfepgbofmlaaGreat
open Go Vc
end Go.Proofs.YtaagfepgbofmlaaGreat
