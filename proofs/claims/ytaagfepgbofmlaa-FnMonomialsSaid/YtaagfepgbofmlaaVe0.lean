/- Plain laws: copies, sizes and comparisons of algebras. -/
import Derived.Test.YtaagfepgbofmlaaVd3
set_option linter.unusedVariables false
set_option linter.unusedSimpArgs false
namespace Go.Proofs.Ytaagfepgbofmlaa
open Go Vc
def Big (n : Nat) : Prop := n < 9223372036854775808
structure LenAlg (a : Alg) : Prop where
  deg : Big a.degrees.length
  img : Big a.images.length
  trm : ∀ f, f ∈ a.images → Big f.terms.length
def GoodAlg (a : Alg) : Prop := (∀ x, x ∈ a.degrees → Fit .i64 x) ∧ ∀ f, f ∈ a.images → ∀ t, t ∈ f.terms → FitA .u8 t.mono ∧ Fit .i64 t.factor
theorem GoodAlg.fit {a : Alg} (h : GoodAlg a) (h3 : ∀ i, i < a.images.length → (a.images.getD i default).terms.length ≤ 1048576) : FitAlg a := fun i hi => ⟨fun t ht => (h.2 _ (getD_mem hi) t ht).1, h3 i hi⟩
end Go.Proofs.Ytaagfepgbofmlaa
