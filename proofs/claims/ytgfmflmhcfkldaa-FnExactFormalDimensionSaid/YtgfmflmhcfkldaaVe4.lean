/- Plain law of row 7. -/
import Derived.Test.YtgfmflmhcfkldaaVe0
import Derived.Test.YtgfmflmhcfkldaaGL4
set_option linter.unusedVariables false
set_option linter.unusedSimpArgs false
namespace Go.Proofs.Ytgfmflmhcfkldaa
open Go Vc
def dimU (ds : List Int) : Nat → Int
  | 0 => 0
  | i + 1 => if ds.getD i default % 2 = 1 then dimU ds i + ds.getD i default else dimU ds i - (ds.getD i default - 1)
theorem dimU_bd {ds : List Int} (hd : OkDeg ds) : ∀ k, k ≤ ds.length → -(12 * k : Int) ≤ dimU ds k ∧ dimU ds k ≤ 12 * k := by
  intro k
  induction k with
  | zero => intro _; simp [dimU]
  | succ k ih =>
    intro hk
    have h1 := ih (by omega)
    have h2 := hd.2 k (by omega)
    simp only [dimU]
    split <;> omega
theorem res_Formal {a : Alg} (hf : FitAlg a) : ∃ x y, (∀ K : Int → Int → Prop, K x y → f_spec_FormalDimension a K) ∧ (∀ K : Int → Int → Prop, K x y → f_impl_FormalDimension a K) := by
  by_cases ok : OkAlg a
  · refine ⟨dimU a.degrees a.degrees.length, 0, fun K hK => ?_, fun K hK => ?_⟩
    · unfold f_spec_FormalDimension
      refine m_l02Is hf (fun _ => ?_) (fun n => absurd ok n)
      rw [if_neg (by simp)]
      have h8 := ok.deg.1
      refine whileP_inv (fun (s : Int × Int) => 0 ≤ s.2 ∧ s.2 ≤ a.degrees.length ∧ s.1 = dimU a.degrees s.2.toNat) (fun s => a.degrees.length - s.2.toNat) ?_ ⟨Int.le_refl _, by dsimp only; omega, rfl⟩
      rintro ⟨s, i⟩ next ⟨h1, h2, h3⟩ hn
      dsimp only at h1 h2 h3 hn ⊢
      split
      · rename_i hi
        have hdi := ok.deg.2 i.toNat (by omega)
        have hb := dimU_bd ok.deg i.toNat (by omega)
        have ni : (i + 1).toNat = i.toNat + 1 := by omega
        have e : Int.tmod (a.degrees.getD i.toNat default) 2 = a.degrees.getD i.toNat default % 2 := Int.tmod_eq_emod_of_nonneg (by omega)
        rw [e, i64_in (i + 1) (by omega), i64_in (a.degrees.getD i.toNat default - 1) (by omega), i64_in (s + a.degrees.getD i.toNat default) (by omega), i64_in (s - (a.degrees.getD i.toNat default - 1)) (by omega)]
        refine ⟨by omega, ?_⟩
        split
        · rename_i q
          refine ⟨by omega, hn _ ⟨by dsimp only; omega, by dsimp only; omega, ?_⟩ (by dsimp only; omega)⟩
          dsimp only
          rw [ni, dimU, if_pos (by omega), h3]
        · rename_i q
          refine ⟨by omega, hn _ ⟨by dsimp only; omega, by dsimp only; omega, ?_⟩ (by dsimp only; omega)⟩
          dsimp only
          rw [ni, dimU, if_neg (by omega), h3]
      · rename_i hi
        rw [h3, show i.toNat = a.degrees.length by omega]; exact hK
    · unfold f_impl_FormalDimension
      refine m_algebraCode0 hf (fun _ => ?_) (fun n => absurd ok n)
      rw [if_neg (by omega)]
      have h8 := ok.deg.1
      refine forN_inv (fun i (s : Int) => s = dimU a.degrees i) a.degrees.length ?_ ?_ _ _ _ (by omega) rfl
      · intro i s next hi hs hn
        have hdi := ok.deg.2 i hi
        have hb := dimU_bd ok.deg i (by omega)
        have e : Int.tmod (a.degrees.getD i default) 2 = a.degrees.getD i default % 2 := Int.tmod_eq_emod_of_nonneg (by omega)
        rw [e, i64_in (a.degrees.getD i default - 1) (by omega), i64_in (s + a.degrees.getD i default) (by omega), i64_in (s - (a.degrees.getD i default - 1)) (by omega)]
        split
        · rename_i q; exact hn _ (by rw [dimU, if_pos q, hs])
        · rename_i q; exact hn _ (by rw [dimU, if_neg q, hs])
      · intro s hs; rw [hs]; exact hK
  · refine ⟨0, 1, fun K hK => ?_, fun K hK => ?_⟩
    · unfold f_spec_FormalDimension
      refine m_l02Is hf (fun y => absurd y ok) (fun _ => ?_)
      rw [if_pos (by simp)]; exact hK
    · unfold f_impl_FormalDimension
      refine m_algebraCode0 hf (fun y => absurd y ok) (fun _ => ?_)
      rw [if_pos (by omega)]; exact hK
theorem pure_FormalDimension (a : Alg) (hg : GoodAlg a) (hb : LenAlg a) : f_laws_FnExactFormalDimension a (fun r => r = true) := law_int (K := fun r => r = true) rfl hb hg rfl res_Formal
end Go.Proofs.Ytgfmflmhcfkldaa
