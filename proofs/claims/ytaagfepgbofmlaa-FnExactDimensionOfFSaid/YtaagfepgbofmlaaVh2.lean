/- Plain laws: marks of rows and algebras; laws of functions that give an algebra. -/
import Derived.Test.YtaagfepgbofmlaaVe0
set_option linter.unusedVariables false
set_option linter.unusedSimpArgs false
namespace Go.Proofs.Ytaagfepgbofmlaa
open Go Vc
end Go.Proofs.Ytaagfepgbofmlaa
