/- Plain law of row 2. -/
import Derived.Test.YtjngkbalaipdbaaVp5
import Derived.Test.YtjngkbalaipdbaaGL4
set_option linter.unusedVariables false
set_option linter.unusedSimpArgs false
namespace Go.Proofs.Ytjngkbalaipdbaa
open Go Vc
theorem p_ProjectiveModel (a0 a1 : Int) (g0 : (Lit.int .i64 a0).wf = true) (g1 : (Lit.int .i64 a1).wf = true) : f_laws_FnExactProjectiveModel a0 a1 (fun r => r = true) := by
  unfold f_laws_FnExactProjectiveModel
  refine m_specProj (m_implProj (m_eqAlgebra ?_))
  simp only [decide_true, not_true_eq_false, if_false, ne_eq]
  refine m_markAlgebra (projR_small a0 a1) fun x' n hh hn => ?_
  refine hh _ ?_
  rw [if_neg (by omega), if_neg (by simp)]
  refine m_implProj (m_eqAlgebra ?_)
  simp only [decide_true, not_true_eq_false, if_false, ne_eq]
  refine hh _ ?_
  rw [if_neg (by omega), if_neg (by simp)]
  trivial
end Go.Proofs.Ytjngkbalaipdbaa
