/- Plain laws: forms out of sums. -/
import Derived.Test.YtaagfepgbofmlaaVp2
set_option linter.unusedVariables false
set_option linter.unusedSimpArgs false
namespace Go.Proofs.Ytaagfepgbofmlaa
open Go Vc
end Go.Proofs.Ytaagfepgbofmlaa
