/- Plain laws: forms out of sums. -/
import Derived.Test.YtgmldfmfpodgiaaVp2
set_option linter.unusedVariables false
set_option linter.unusedSimpArgs false
namespace Go.Proofs.Ytgmldfmfpodgiaa
open Go Vc
end Go.Proofs.Ytgmldfmfpodgiaa
