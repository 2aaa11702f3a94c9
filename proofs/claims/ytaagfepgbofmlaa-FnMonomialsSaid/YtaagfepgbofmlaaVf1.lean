/- Plain laws: the reference's forms. -/
import Derived.Test.YtaagfepgbofmlaaVp3
import Derived.Test.YtaagfepgbofmlaaVf0
import Derived.Test.YtaagfepgbofmlaaGC
set_option linter.unusedVariables false
set_option linter.unusedSimpArgs false
namespace Go.Proofs.Ytaagfepgbofmlaa
open Go Vc
theorem if_pos' {c : Prop} [Decidable c] {A B : Prop} (h : c) (k : A) : if c then A else B := by rw [if_pos h]; exact k
theorem if_neg' {c : Prop} [Decidable c] {A B : Prop} (h : ¬ c) (k : B) : if c then A else B := by rw [if_neg h]; exact k
/-- What a form is, for degrees. -/
def OkForm (ds : List Int) (l : List Term) : Prop := l.length ≤ 400 ∧ ∀ i, i < l.length → OkMono ds (l.getD i default).mono ∧ (1 ≤ (l.getD i default).factor ∧ (l.getD i default).factor ≤ 10006) ∧ (0 < i → pcmp (l.getD (i - 1) default).mono (l.getD i default).mono < 0)
instance (ds : List Int) (l : List Term) : Decidable (OkForm ds l) := inferInstanceAs (Decidable (_ ∧ ∀ i, i < l.length → _))
theorem OkForm.mono {ds : List Int} {l : List Term} (h : OkForm ds l) {t : Term} (ht : t ∈ l) : OkMono ds t.mono := by
  obtain ⟨i, hi, rfl⟩ := List.getElem_of_mem ht
  have := (h.2 i hi).1
  simpa [List.getD, hi] using this
/-- The bytes of monomials. -/
def PosT (l : List Term) : Prop := ∀ t, t ∈ l → ∀ i, i < 8 → 0 ≤ t.mono.get i ∧ t.mono.get i ≤ 255
end Go.Proofs.Ytaagfepgbofmlaa
