/- Plain laws: the program's forms. -/
import Derived.Test.YtaagfepgbofmlaaVf1
set_option linter.unusedVariables false
set_option linter.unusedSimpArgs false
namespace Go.Proofs.Ytaagfepgbofmlaa
open Go Vc
def FitT (l : List Term) : Prop := ∀ t, t ∈ l → FitA .u8 t.mono
theorem FitT.pos {l : List Term} (h : FitT l) : PosT l := fun t ht i hi => fit_u8 (fitA_get (h t ht) hi)
/-! ### Sums -/
/-- A map of a form: its coefficients, its monomials. -/
structure IsMap (l : List Term) (m : List (A8 × Int)) : Prop where
  ok : MapOk m
  cf : ∀ x, co m x = coT l x
  ks : ∀ p, p ∈ m → ∃ t, t ∈ l ∧ t.mono = p.1
/-- What sum.addAll leaves: k times t is added. -/
structure IsSum (s t : List (A8 × Int)) (k : Int) (out : List (A8 × Int)) : Prop where
  ok : MapOk out
  cf : ∀ m, co out m % 10007 = (co s m + k * co t m) % 10007
  ks : ∀ p, p ∈ out → ∃ q, (q ∈ s ∨ q ∈ t) ∧ q.1 = p.1
  ln : out.length ≤ s.length + t.length
/-! ### Products -/
def shM (ds : List Int) (p : A8 × Int) (t : List (A8 × Int)) (m : A8) : Int := tot (fun q => pr1 ds p.1 p.2 q.1 q.2 m) t
def prM (ds : List Int) (s t : List (A8 × Int)) (m : A8) : Int := tot (fun p => shM ds p t m) s
structure IsProdM (ds : List Int) (s t out : List (A8 × Int)) : Prop where
  ok : MapOk out
  cf : ∀ m, co out m % 10007 = prM ds s t m % 10007
  ks : ∀ p, p ∈ out → ∃ a b, a ∈ s ∧ b ∈ t ∧ p.1 = a.1.add b.1 ∧ ¬ Clash ds a.1 b.1
/-- A form out of a sum. -/
def Low (a : A8) : Prop := ∀ i, i < 8 → a.get i ≤ 20
instance (a : A8) : Decidable (Low a) := inferInstanceAs (Decidable (∀ i, i < 8 → _))
end Go.Proofs.Ytaagfepgbofmlaa
