/- Plain laws: products of monomials, by the program's text and by the reference's. -/
import Derived.Test.YtaagfepgbofmlaaVp0
import Derived.Test.YtaagfepgbofmlaaGA
set_option linter.unusedVariables false
set_option linter.unusedSimpArgs false
namespace Go.Proofs.Ytaagfepgbofmlaa
open Go Vc
theorem m_l01In {a b c : Int} {K : Bool → Prop} (h : K (decide (b ≤ a ∧ a ≤ c))) : f_spec_l01In a b c K := by
  unfold f_spec_l01In
  split
  · rename_i h1; simpa [show b ≤ a from h1] using h
  · rename_i h1; simpa [show ¬ b ≤ a from h1] using h
theorem m_within {a b c : Int} {K : Bool → Prop} (h : K (decide (b ≤ a ∧ a ≤ c))) : f_impl_within a b c K := by
  unfold f_impl_within
  split
  · rename_i h1; simpa [show b ≤ a from h1] using h
  · rename_i h1; simpa [show ¬ b ≤ a from h1] using h
theorem m_eqMonomial {a b : A8} {K : Bool → Prop} (h : K (decide (a = b))) : f_laws_eqMonomial a b K := by
  unfold f_laws_eqMonomial
  refine forN_inv (fun i _ => ∀ j, j < i → a.get j = b.get j) 8 ?_ ?_ _ _ _ (by omega) (by intro j hj; omega)
  · intro i s next hi hI hn
    split
    · rename_i h1
      have : ¬ a = b := fun e => h1 (by rw [e])
      simpa [this] using h
    · rename_i h1
      refine hn _ fun j hj => ?_
      by_cases hji : j = i
      · subst hji; simpa using h1
      · exact hI j (by omega)
  · intro s hI
    have : a = b := A8.ext_get hI
    simpa [this] using h
theorem m_eqInt64S {a b : List Int} {K : Bool → Prop} (h : K (decide (a = b))) : f_laws_eqInt64S a b K := by
  unfold f_laws_eqInt64S
  split
  · rename_i h1
    have : ¬ a = b := fun e => h1 (by rw [e])
    simpa [this] using h
  · rename_i h1
    have hl : a.length = b.length := by omega
    refine forN_inv (fun i _ => ∀ j, j < i → a.getD j default = b.getD j default) a.length ?_ ?_ _ _ _ (by omega) (by intro j hj; omega)
    · intro i s next hi hI hn
      refine ⟨by omega, ?_⟩
      split
      · rename_i h1
        have : ¬ a = b := fun e => h1 (by rw [e])
        simpa [this] using h
      · rename_i h1
        refine hn _ fun j hj => ?_
        by_cases hji : j = i
        · subst hji; simpa using h1
        · exact hI j (by omega)
    · intro s hI
      have : a = b := by
        apply List.ext_getElem hl
        intro i h1 h2
        have := hI i h1
        simpa [List.getD, h1, h2] using this
      simpa [this] using h
end Go.Proofs.Ytaagfepgbofmlaa
