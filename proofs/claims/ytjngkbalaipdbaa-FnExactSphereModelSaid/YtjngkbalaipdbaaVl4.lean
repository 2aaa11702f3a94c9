/- Plain law of row 4. -/
import Derived.Test.YtjngkbalaipdbaaVp5
import Derived.Test.YtjngkbalaipdbaaGL6
set_option linter.unusedVariables false
set_option linter.unusedSimpArgs false
namespace Go.Proofs.Ytjngkbalaipdbaa
open Go Vc
theorem p_SphereModel (a0 : Int) (g0 : (Lit.int .i64 a0).wf = true) : f_laws_FnExactSphereModel a0 (fun r => r = true) := by
  unfold f_laws_FnExactSphereModel
  refine m_specSphere (m_implSphere g0 (m_eqAlgebra ?_))
  simp only [decide_true, not_true_eq_false, if_false, ne_eq]
  refine m_markAlgebra (sphereR_small a0) fun x' n hh hn => ?_
  refine hh _ ?_
  rw [if_neg (by omega), if_neg (by simp)]
  refine m_implSphere g0 (m_eqAlgebra ?_)
  simp only [decide_true, not_true_eq_false, if_false, ne_eq]
  refine hh _ ?_
  rw [if_neg (by omega), if_neg (by simp)]
  trivial
end Go.Proofs.Ytjngkbalaipdbaa
