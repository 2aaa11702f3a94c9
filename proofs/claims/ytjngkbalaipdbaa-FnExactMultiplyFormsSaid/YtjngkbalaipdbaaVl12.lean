/- Plain law of row 20. -/
import Derived.Test.YtjngkbalaipdbaaVf3
import Derived.Test.YtjngkbalaipdbaaGL12
set_option linter.unusedVariables false
set_option linter.unusedSimpArgs false
namespace Go.Proofs.Ytjngkbalaipdbaa
open Go Vc
theorem p_MultiplyForms (a0 : List Int) (a1 a2 : Vc.Form) (g1 : FitT a1.terms) (g2 : FitT a2.terms) (b1 : a1.terms.length < 9223372036854775808) (b2 : a2.terms.length < 9223372036854775808) : f_laws_FnExactMultiplyForms a0 a1 a2 (fun r => r = true) := by
  obtain ⟨f⟩ := a1
  obtain ⟨g⟩ := a2
  dsimp only at g1 g2 b1 b2
  unfold f_laws_FnExactMultiplyForms
  by_cases q0 : (a0.length : Int) > 1048576
  · rw [if_pos q0]
  rw [if_neg q0]
  refine m_szForm (by dsimp only; omega) (by omega) (fun q1 => ?_) (fun r hr => by rw [if_pos hr])
  dsimp only at q1
  rw [if_neg (by dsimp only; omega)]
  refine m_szForm (by dsimp only; omega) (by dsimp only; omega) (fun q2 => ?_) (fun r hr => by rw [if_pos hr])
  dsimp only at q2
  rw [if_neg (by dsimp only; omega)]
  have l0 : a0.length ≤ 1048576 := by omega
  have lf : f.length ≤ 1048576 := by omega
  have lg : g.length ≤ 1048576 := by omega
  refine m_toInt64S l0 (m_toForm lf (m_toForm lg ?_))
  refine m_specMulF lf lg g1 g2 (fun no => ?_) (fun h1 h2 h3 l hl => ?_)
  · have hF : (⟨[]⟩ : Vc.Form).terms.length ≤ 400 := by simp
    have him : ∀ K : Vc.Form → Int → Prop, K ⟨[]⟩ 1 → f_impl_MultiplyForms a0 ⟨f⟩ ⟨g⟩ K := fun K hK => m_implMulF g1 g2 (fun _ => hK) (fun h1 h2 h3 => absurd ⟨h1, h2, h3⟩ no)
    generalize (⟨[]⟩ : Vc.Form) = F at hF him ⊢
    refine m_toInt64S l0 (m_toForm lf (m_toForm lg (him _ ?_)))
    refine same_Form (not_no (ne_no ?_))
    refine m_toInt64S l0 (same_Int64S (not_no ?_))
    refine m_toForm lf (same_Form (not_no ?_))
    refine m_toForm lg (same_Form (not_no ?_))
    refine m_markInt64S (by omega) fun x0 _ _ => ?_
    refine m_markForm (by dsimp only; omega) fun x1 _ => ?_
    refine m_markForm (by dsimp only; omega) fun x2 _ => ?_
    refine lt_no (by omega) ?_
    refine same_Form (not_no ?_)
    refine m_markForm (by dsimp only; omega) fun x3 hh => ?_
    refine hh _ (lt_no (by omega) (ne_no ?_))
    refine m_toInt64S l0 (m_toForm lf (m_toForm lg (him _ (same_Form (not_no (ne_no ?_))))))
    exact hh _ (lt_no (by omega) (ne_no rfl))
  · have hF := formR_len l
    have him : ∀ K : Vc.Form → Int → Prop, K (formR l).1 (formR l).2 → f_impl_MultiplyForms a0 ⟨f⟩ ⟨g⟩ K := fun K hK => m_implMulF g1 g2 (fun no => absurd ⟨h1, h2, h3⟩ no) (fun _ _ _ l' hc hl' => by
      rwa [canon_mod hc hl.can (fun m => by rw [hl', hl.cf])])
    generalize (formR l).1 = F at hF him ⊢
    generalize (formR l).2 = c at him ⊢
    refine m_toInt64S l0 (m_toForm lf (m_toForm lg (him _ ?_)))
    refine same_Form (not_no (ne_no ?_))
    refine m_toInt64S l0 (same_Int64S (not_no ?_))
    refine m_toForm lf (same_Form (not_no ?_))
    refine m_toForm lg (same_Form (not_no ?_))
    refine m_markInt64S (by omega) fun x0 _ _ => ?_
    refine m_markForm (by dsimp only; omega) fun x1 _ => ?_
    refine m_markForm (by dsimp only; omega) fun x2 _ => ?_
    refine lt_no (by omega) ?_
    refine same_Form (not_no ?_)
    refine m_markForm (by dsimp only; omega) fun x3 hh => ?_
    refine hh _ (lt_no (by omega) (ne_no ?_))
    refine m_toInt64S l0 (m_toForm lf (m_toForm lg (him _ (same_Form (not_no (ne_no ?_))))))
    exact hh _ (lt_no (by omega) (ne_no rfl))
theorem pure_MultiplyForms (a0 : List Int) (a1 a2 : Vc.Form) (g0 : ∀ x, x ∈ a0 → Fit .i64 x) (g1 : (fun a_ : Vc.Form => ∀ x, x ∈ a_.terms → FitA .u8 x.mono ∧ Fit .i64 x.factor) a1) (g2 : (fun a_ : Vc.Form => ∀ x, x ∈ a_.terms → FitA .u8 x.mono ∧ Fit .i64 x.factor) a2) (b1 : a1.terms.length < 9223372036854775808) (b2 : a2.terms.length < 9223372036854775808) : f_laws_FnExactMultiplyForms a0 a1 a2 (fun r => r = true) :=
  p_MultiplyForms a0 a1 a2 (fun t ht => (g1 t ht).1) (fun t ht => (g2 t ht).1) b1 b2
end Go.Proofs.Ytjngkbalaipdbaa
