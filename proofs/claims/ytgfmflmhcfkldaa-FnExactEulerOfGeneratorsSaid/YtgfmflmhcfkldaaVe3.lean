/- Plain law of row 5. -/
import Derived.Test.YtgfmflmhcfkldaaVe0
import Derived.Test.YtgfmflmhcfkldaaGL3
set_option linter.unusedVariables false
set_option linter.unusedSimpArgs false
namespace Go.Proofs.Ytgfmflmhcfkldaa
open Go Vc
def eulU (ds : List Int) : Nat → Int
  | 0 => 0
  | i + 1 => eulU ds i + 1 - 2 * (ds.getD i default % 2)
theorem eulU_bd (ds : List Int) : ∀ k : Nat, -(k : Int) ≤ eulU ds k ∧ eulU ds k ≤ k := by
  intro k
  induction k with
  | zero => simp [eulU]
  | succ k ih => simp only [eulU]; omega
theorem res_Euler {a : Alg} (hf : FitAlg a) : ∃ x y, (∀ K : Int → Int → Prop, K x y → f_spec_EulerOfGenerators a K) ∧ (∀ K : Int → Int → Prop, K x y → f_impl_EulerOfGenerators a K) := by
  by_cases ok : OkAlg a
  · refine ⟨eulU a.degrees a.degrees.length, 0, fun K hK => ?_, fun K hK => ?_⟩
    · unfold f_spec_EulerOfGenerators
      refine m_l02Is hf (fun _ => ?_) (fun n => absurd ok n)
      rw [if_neg (by simp)]
      have h8 := ok.deg.1
      refine whileP_inv (fun (s : Int × Int) => 0 ≤ s.2 ∧ s.2 ≤ a.degrees.length ∧ s.1 = eulU a.degrees s.2.toNat) (fun s => a.degrees.length - s.2.toNat) ?_ ⟨Int.le_refl _, by dsimp only; omega, rfl⟩
      rintro ⟨s, i⟩ next ⟨h1, h2, h3⟩ hn
      dsimp only at h1 h2 h3 hn ⊢
      split
      · rename_i hi
        have hdi := ok.deg.2 i.toNat (by omega)
        have hb := eulU_bd a.degrees i.toNat
        have ni : (i + 1).toNat = i.toNat + 1 := by omega
        have e : Int.tmod (a.degrees.getD i.toNat default) 2 = a.degrees.getD i.toNat default % 2 := Int.tmod_eq_emod_of_nonneg (by omega)
        rw [e, i64_in (s + 1) (by omega), i64_in (2 * (a.degrees.getD i.toNat default % 2)) (by omega), i64_in _ (by omega), i64_in (i + 1) (by omega)]
        refine ⟨by omega, hn _ ⟨by dsimp only; omega, by dsimp only; omega, ?_⟩ (by dsimp only; omega)⟩
        dsimp only
        rw [ni, h3]; rfl
      · rename_i hi
        rw [h3, show i.toNat = a.degrees.length by omega]; exact hK
    · unfold f_impl_EulerOfGenerators
      refine m_algebraCode0 hf (fun _ => ?_) (fun n => absurd ok n)
      rw [if_neg (by omega)]
      unfold f_impl_eulerOf
      have h8 := ok.deg.1
      refine forN_inv (fun i (s : Int) => s = eulU a.degrees i) a.degrees.length ?_ ?_ _ _ _ (by omega) rfl
      · intro i s next hi hs hn
        have hdi := ok.deg.2 i hi
        have hb := eulU_bd a.degrees i
        have e : Int.tmod (a.degrees.getD i default) 2 = a.degrees.getD i default % 2 := Int.tmod_eq_emod_of_nonneg (by omega)
        rw [e, i64_in (2 * (a.degrees.getD i default % 2)) (by omega), i64_in (1 - 2 * (a.degrees.getD i default % 2)) (by omega), i64_in _ (by omega)]
        exact hn _ (by simp only [eulU]; omega)
      · intro s hs; rw [hs]; exact hK
  · refine ⟨0, 1, fun K hK => ?_, fun K hK => ?_⟩
    · unfold f_spec_EulerOfGenerators
      refine m_l02Is hf (fun y => absurd y ok) (fun _ => ?_)
      rw [if_pos (by simp)]; exact hK
    · unfold f_impl_EulerOfGenerators
      refine m_algebraCode0 hf (fun y => absurd y ok) (fun _ => ?_)
      rw [if_pos (by omega)]; exact hK
theorem pure_EulerOfGenerators (a : Alg) (hg : GoodAlg a) (hb : LenAlg a) : f_laws_FnExactEulerOfGenerators a (fun r => r = true) := law_int (K := fun r => r = true) rfl hb hg rfl res_Euler
end Go.Proofs.Ytgfmflmhcfkldaa
