/- Plain law of row 18. -/
import Derived.Test.YtjngkbalaipdbaaVf3
import Derived.Test.YtjngkbalaipdbaaGL10
set_option linter.unusedVariables false
set_option linter.unusedSimpArgs false
namespace Go.Proofs.Ytjngkbalaipdbaa
open Go Vc
theorem p_ScaleForm (a0 : List Int) (k : Int) (a2 : Vc.Form) (g2 : FitT a2.terms) (b2 : a2.terms.length < 9223372036854775808) : f_laws_FnExactScaleForm a0 k a2 (fun r => r = true) := by
  obtain ⟨f⟩ := a2
  dsimp only at g2 b2
  unfold f_laws_FnExactScaleForm
  by_cases q0 : (a0.length : Int) > 1048576
  · rw [if_pos q0]
  rw [if_neg q0]
  refine m_szForm (by dsimp only; omega) (by omega) (fun q1 => ?_) (fun r hr => by rw [if_pos hr])
  dsimp only at q1
  rw [if_neg (by dsimp only; omega)]
  have l0 : a0.length ≤ 1048576 := by omega
  have lf : f.length ≤ 1048576 := by omega
  refine m_toInt64S l0 (m_toForm lf ?_)
  refine m_specScale lf g2 (fun no => ?_) (fun yes no => ?_) (fun h1 h2 h3 l hl => ?_)
  · have hF : (⟨[]⟩ : Vc.Form).terms.length ≤ 400 := by simp
    have him : ∀ K : Vc.Form → Int → Prop, K ⟨[]⟩ 1 → f_impl_ScaleForm a0 k ⟨f⟩ K := fun K hK => m_implScale g2 (fun _ => hK) (fun y => absurd y no) (fun h1 h2 _ => absurd ⟨h1, h2⟩ no)
    generalize (⟨[]⟩ : Vc.Form) = F at hF him ⊢
    refine m_toInt64S l0 (m_toForm lf (him _ ?_))
    refine same_Form (not_no (ne_no ?_))
    refine m_toInt64S l0 (same_Int64S (not_no ?_))
    refine m_toForm lf (same_Form (not_no ?_))
    refine m_markInt64S (by omega) fun x0 _ _ => ?_
    refine m_markForm (by dsimp only; omega) fun x1 _ => ?_
    refine lt_no (by omega) ?_
    refine same_Form (not_no ?_)
    refine m_markForm (by dsimp only; omega) fun x3 hh => ?_
    refine hh _ (lt_no (by omega) (ne_no ?_))
    refine m_toInt64S l0 (m_toForm lf (him _ (same_Form (not_no (ne_no ?_)))))
    exact hh _ (lt_no (by omega) (ne_no rfl))
  · have hF : (⟨[]⟩ : Vc.Form).terms.length ≤ 400 := by simp
    have him : ∀ K : Vc.Form → Int → Prop, K ⟨[]⟩ 2 → f_impl_ScaleForm a0 k ⟨f⟩ K := fun K hK => m_implScale g2 (fun n => absurd yes n) (fun _ _ => hK) (fun _ _ y => absurd y no)
    generalize (⟨[]⟩ : Vc.Form) = F at hF him ⊢
    refine m_toInt64S l0 (m_toForm lf (him _ ?_))
    refine same_Form (not_no (ne_no ?_))
    refine m_toInt64S l0 (same_Int64S (not_no ?_))
    refine m_toForm lf (same_Form (not_no ?_))
    refine m_markInt64S (by omega) fun x0 _ _ => ?_
    refine m_markForm (by dsimp only; omega) fun x1 _ => ?_
    refine lt_no (by omega) ?_
    refine same_Form (not_no ?_)
    refine m_markForm (by dsimp only; omega) fun x3 hh => ?_
    refine hh _ (lt_no (by omega) (ne_no ?_))
    refine m_toInt64S l0 (m_toForm lf (him _ (same_Form (not_no (ne_no ?_)))))
    exact hh _ (lt_no (by omega) (ne_no rfl))
  · have hs := scale_formR h2 hl
    have hF : (⟨l⟩ : Vc.Form).terms.length ≤ 400 := by have := formR_len l; rw [hs] at this; exact this
    have him : ∀ K : Vc.Form → Int → Prop, K ⟨l⟩ 0 → f_impl_ScaleForm a0 k ⟨f⟩ K := fun K hK => m_implScale g2 (fun n => absurd ⟨h1, h2⟩ n) (fun _ n => absurd h3 n) (fun _ _ _ l' hc hl' => by
      rw [canon_mod hc hl.can (fun m => by rw [hl', hl.cf]), hs]; exact hK)
    generalize (⟨l⟩ : Vc.Form) = F at hF him ⊢
    refine m_toInt64S l0 (m_toForm lf (him _ ?_))
    refine same_Form (not_no (ne_no ?_))
    refine m_toInt64S l0 (same_Int64S (not_no ?_))
    refine m_toForm lf (same_Form (not_no ?_))
    refine m_markInt64S (by omega) fun x0 _ _ => ?_
    refine m_markForm (by dsimp only; omega) fun x1 _ => ?_
    refine lt_no (by omega) ?_
    refine same_Form (not_no ?_)
    refine m_markForm (by dsimp only; omega) fun x3 hh => ?_
    refine hh _ (lt_no (by omega) (ne_no ?_))
    refine m_toInt64S l0 (m_toForm lf (him _ (same_Form (not_no (ne_no ?_)))))
    exact hh _ (lt_no (by omega) (ne_no rfl))
theorem pure_ScaleForm (a0 : List Int) (k : Int) (a2 : Vc.Form) (g0 : ∀ x, x ∈ a0 → Fit .i64 x) (g1 : Fit .i64 k) (g2 : (fun a_ : Vc.Form => ∀ x, x ∈ a_.terms → FitA .u8 x.mono ∧ Fit .i64 x.factor) a2) (b2 : a2.terms.length < 9223372036854775808) : f_laws_FnExactScaleForm a0 k a2 (fun r => r = true) :=
  p_ScaleForm a0 k a2 (fun t ht => (g2 t ht).1) b2
end Go.Proofs.Ytjngkbalaipdbaa
