/- Plain laws: the differential of a form. -/
import Derived.Test.YtgmldfmfpodgiaaVe0
set_option linter.unusedVariables false
set_option linter.unusedSimpArgs false
namespace Go.Proofs.Ytgmldfmfpodgiaa
open Go Vc
theorem m_algebraCode1 {a : Alg} {f : List Term} {K : Int → Prop} (hf : FitAlg a) (ff : FitT f) (h1 : OkAlg a → OkForm a.degrees f → K 0) (h2 : ¬ (OkAlg a ∧ OkForm a.degrees f) → K 1) : f_impl_algebraCode a [⟨f⟩] K := by
  unfold f_impl_algebraCode
  refine m_IsAlgebra hf (fun z => ?_) (fun z => ?_)
  · rw [if_neg (by simp)]
    refine m_containsF (Q := fun g => ¬ OkForm a.degrees g.terms) (fun i hi K' c1 c2 => ?_) (fun hex => ?_) (fun hall => ?_)
    · have hi' : i < 1 := hi
      obtain rfl : i = 0 := by omega
      unfold f_impl_algebraCode_1
      refine m_isForm z.deg ff ?_
      by_cases q : OkForm a.degrees f
      · rw [decide_eq_true q]; exact c2 fun n => n q
      · rw [decide_eq_false q]; exact c1 q
    · obtain ⟨i, hi, hq⟩ := hex
      have hi' : i < 1 := hi
      obtain rfl : i = 0 := by omega
      exact m_when (h2 fun y => hq y.2)
    · exact m_when (h1 z (Classical.byContradiction (hall 0 (show 0 < 1 by omega))))
  · rw [if_pos (by simp)]
    exact m_when (h2 fun y => z y.1)
end Go.Proofs.Ytgmldfmfpodgiaa
