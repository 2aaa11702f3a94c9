/- Plain laws: which algebras are algebras, by the reference and by the program. -/
import Derived.Test.YtaagfepgbofmlaaVd2
set_option linter.unusedVariables false
set_option linter.unusedSimpArgs false
namespace Go.Proofs.Ytaagfepgbofmlaa
open Go Vc
/-! ### Degrees of forms -/
def Hom (ds : List Int) (l : List Term) (n : Int) : Prop := ∀ i, i < l.length → wtU ds (l.getD i default).mono ds.length = n
instance (ds : List Int) (l : List Term) (n : Int) : Decidable (Hom ds l n) := inferInstanceAs (Decidable (∀ i, i < l.length → _))
/-! ### Algebras -/
structure OkAlg (a : Alg) : Prop where
  deg : OkDeg a.degrees
  len : a.images.length = a.degrees.length
  frm : ∀ i, i < a.images.length → OkForm a.degrees (a.images.getD i default).terms
  hom : ∀ i, i < a.images.length → Hom a.degrees (a.images.getD i default).terms (a.degrees.getD i default + 1)
  clo : ∀ i, i < a.images.length → ∀ out, IsD a.degrees (imgsT a) (a.images.getD i default).terms out → out = []
def FitAlg (a : Alg) : Prop := ∀ i, i < a.images.length → FitT (a.images.getD i default).terms ∧ (a.images.getD i default).terms.length ≤ 1048576
end Go.Proofs.Ytaagfepgbofmlaa
