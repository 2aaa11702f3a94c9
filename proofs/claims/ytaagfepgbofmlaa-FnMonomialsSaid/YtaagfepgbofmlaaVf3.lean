/- Plain laws: sums, multiples and products of forms; copies and marks of a form. -/
import Derived.Test.YtaagfepgbofmlaaVf2
import Derived.Test.YtaagfepgbofmlaaVp4
set_option linter.unusedVariables false
set_option linter.unusedSimpArgs false
namespace Go.Proofs.Ytaagfepgbofmlaa
open Go Vc
theorem FitT.map {l : List Term} {m : List (A8 × Int)} (h : FitT l) (hm : IsMap l m) : ∀ p, p ∈ m → ∀ i, i < 8 → 0 ≤ p.1.get i ∧ p.1.get i ≤ 255 := fun p hp => by
  obtain ⟨t, ht, e⟩ := hm.ks p hp
  rw [← e]; exact h.pos t ht
end Go.Proofs.Ytaagfepgbofmlaa
