/- The differential of maps as coefficients. -/
import Derived.Test.YtaagfepgbofmlaaVf2
import Derived.Test.YtaagfepgbofmlaaVd0
set_option linter.unusedVariables false
set_option linter.unusedSimpArgs false
namespace Go.Proofs.Ytaagfepgbofmlaa
open Go Vc
/-- What the differential of a map is. -/
structure IsDM (ds : List Int) (imgs : List (List Term)) (s out : List (A8 × Int)) : Prop where
  ok : MapOk out
  cf : ∀ x, co out x % 10007 = tot (fun p => dT ds imgs p.1 p.2 x) s % 10007
  mo : ∀ y, y ∈ out → ∃ t, t ∈ s ∧ DMono ds imgs y.1 t.1
end Go.Proofs.Ytaagfepgbofmlaa
