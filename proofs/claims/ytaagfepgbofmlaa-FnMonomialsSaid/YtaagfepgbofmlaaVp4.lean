/- Plain laws: forms alike; marks and what is held. -/
import Derived.Test.YtaagfepgbofmlaaVf1
set_option linter.unusedVariables false
set_option linter.unusedSimpArgs false
namespace Go.Proofs.Ytaagfepgbofmlaa
open Go Vc
end Go.Proofs.Ytaagfepgbofmlaa
