/- Plain laws: models with one or two generators. -/
import Derived.Test.YtjngkbalaipdbaaVp6
set_option linter.unusedVariables false
set_option linter.unusedSimpArgs false
namespace Go.Proofs.Ytjngkbalaipdbaa
open Go Vc
theorem m_form1 {p : A8} {K : Vc.Form → Int → Prop} (hp : ∀ i, i < 8 → 0 ≤ p.get i ∧ p.get i ≤ 20) (h : K ⟨[⟨p, 1⟩]⟩ 0) : f_impl_sum_form (mset ([] : List (A8 × Int)) p 1) K := by
  refine m_form (by simp [mset]) ?_ ?_ ?_
  · intro q hq
    obtain rfl : q = (p, 1) := by simpa [mset] using hq
    intro x hx
    obtain ⟨i, hi, rfl⟩ := A8.mem_list.1 hx
    have := hp i hi
    dsimp only; omega
  · rintro ⟨q, hq, i, hi, hgt⟩
    obtain rfl : q = (p, 1) := by simpa [mset] using hq
    have := hp i hi
    dsimp only at hgt; omega
  · intro hle xs hperm hw
    obtain rfl : xs = [p] := by simpa [mset] using hperm
    simpa [mset, mget] using h
theorem set0_get {v : Int} (hv : 0 ≤ v ∧ v ≤ 20) {j : Nat} (hj : j < 8) : ∀ i, i < 8 → 0 ≤ (A8.zero.set j v).get i ∧ (A8.zero.set j v).get i ≤ 20 := by
  intro i hi
  rw [A8.get_set hj]
  split
  · exact hv
  · rw [A8.get_zero]; omega
theorem m_powerForm {i v : Int} {K : Vc.Form → Prop} (hi : 0 ≤ i ∧ i < 8) (hv : 0 ≤ v ∧ v ≤ 20) (h : K ⟨[⟨A8.zero.set i.toNat v, 1⟩]⟩) : f_impl_powerForm i v K := by
  unfold f_impl_powerForm
  exact ⟨hi, m_form1 (set0_get hv (by omega)) h⟩
theorem mod_one : Int.tmod (IntKind.i64.wrap ((Int.tmod 1 10007) + 10007)) 10007 = 1 := by decide
theorem m_l08Power {i v : Int} {K : Vc.Form → Prop} (hi : 0 ≤ i ∧ i < 8) (h : K ⟨[⟨A8.zero.set i.toNat v, 1⟩]⟩) : f_spec_l08Power i v K := by
  unfold f_spec_l08Power f_spec_l01Single f_spec_l01Mod
  refine ⟨hi, ?_⟩
  rw [mod_one]
  dsimp only
  rw [if_neg (by decide)]
  exact h
def twoGen (n m e : Int) : Alg := ⟨[n, m], [⟨[]⟩, ⟨[⟨A8.zero.set 0 e, 1⟩]⟩]⟩
def projR (a0 a1 : Int) : Alg × Int := if (a1 = 2 ∧ 1 ≤ a0 ∧ a0 ≤ 5) ∨ (a1 = 4 ∧ 1 ≤ a0 ∧ a0 ≤ 2) then (twoGen a1 (a1 * (a0 + 1) - 1) (a0 + 1), 0) else (⟨[], []⟩, 2)
theorem m_specProj {a0 a1 : Int} {K : Alg → Int → Prop} (h : K (projR a0 a1).1 (projR a0 a1).2) : f_spec_ProjectiveModel a0 a1 K := by
  unfold f_spec_ProjectiveModel
  have good : (a1 = 2 ∧ 1 ≤ a0 ∧ a0 ≤ 5) ∨ (a1 = 4 ∧ 1 ≤ a0 ∧ a0 ≤ 2) → f_spec_l08Power 0 (IntKind.u8.wrap (IntKind.i64.wrap (a0 + 1))) (fun r => K (⟨[a1, IntKind.i64.wrap ((IntKind.i64.wrap (a1 * (IntKind.i64.wrap (a0 + 1)))) - 1)], [(⟨[]⟩ : Vc.Form), r]⟩ : Alg) 0) := by
    intro hg
    rw [projR, if_pos hg] at h
    have e0 : IntKind.i64.wrap (a0 + 1) = a0 + 1 := i64_in _ (by omega)
    have e1 : IntKind.i64.wrap (a1 * (a0 + 1)) = a1 * (a0 + 1) := i64_in _ (by rcases hg with ⟨rfl, _⟩ | ⟨rfl, _⟩ <;> omega)
    have e2 : IntKind.i64.wrap (a1 * (a0 + 1) - 1) = a1 * (a0 + 1) - 1 := i64_in _ (by rcases hg with ⟨rfl, _⟩ | ⟨rfl, _⟩ <;> omega)
    rw [e0, e1, e2, u8_in _ (by omega)]
    exact m_l08Power (by omega) h
  have bad : ¬ ((a1 = 2 ∧ 1 ≤ a0 ∧ a0 ≤ 5) ∨ (a1 = 4 ∧ 1 ≤ a0 ∧ a0 ≤ 2)) → K (⟨[], []⟩ : Alg) 2 := by
    intro hg
    rw [projR, if_neg hg] at h; exact h
  split
  · split
    · exact bad (by omega)
    · refine m_l01In ?_
      split
      · rename_i q; exact bad (by simp only [decide_eq_true_eq] at q; omega)
      · rename_i q
        simp only [decide_eq_true_eq, Decidable.not_not] at q
        split
        · split
          · exact bad (by omega)
          · exact good (by omega)
        · exact good (by omega)
  · refine m_l01In ?_
    split
    · rename_i q; exact bad (by simp only [decide_eq_true_eq] at q; omega)
    · rename_i q
      simp only [decide_eq_true_eq, Decidable.not_not] at q
      split
      · split
        · exact bad (by omega)
        · exact good (by omega)
      · exact good (by omega)
theorem m_implProj {a0 a1 : Int} {K : Alg → Int → Prop} (h : K (projR a0 a1).1 (projR a0 a1).2) : f_impl_ProjectiveModel a0 a1 K := by
  unfold f_impl_ProjectiveModel
  have good : (a1 = 2 ∧ 1 ≤ a0 ∧ a0 ≤ 5) ∨ (a1 = 4 ∧ 1 ≤ a0 ∧ a0 ≤ 2) → f_impl_powerForm 0 (IntKind.i64.wrap (a0 + 1)) (fun r => K (⟨[a1, IntKind.i64.wrap ((IntKind.i64.wrap (a1 * (IntKind.i64.wrap (a0 + 1)))) - 1)], [(⟨[]⟩ : Vc.Form), r]⟩ : Alg) 0) := by
    intro hg
    rw [projR, if_pos hg] at h
    have e0 : IntKind.i64.wrap (a0 + 1) = a0 + 1 := i64_in _ (by omega)
    have e1 : IntKind.i64.wrap (a1 * (a0 + 1)) = a1 * (a0 + 1) := i64_in _ (by rcases hg with ⟨rfl, _⟩ | ⟨rfl, _⟩ <;> omega)
    have e2 : IntKind.i64.wrap (a1 * (a0 + 1) - 1) = a1 * (a0 + 1) - 1 := i64_in _ (by rcases hg with ⟨rfl, _⟩ | ⟨rfl, _⟩ <;> omega)
    rw [e0, e1, e2]
    exact m_powerForm (by omega) (by omega) h
  have bad : ¬ ((a1 = 2 ∧ 1 ≤ a0 ∧ a0 ≤ 5) ∨ (a1 = 4 ∧ 1 ≤ a0 ∧ a0 ≤ 2)) → K (⟨[], []⟩ : Alg) 2 := by
    intro hg
    rw [projR, if_neg hg] at h; exact h
  split
  · refine m_within ?_
    split
    · rename_i q; simp only [decide_eq_true_eq] at q; exact good (by omega)
    · rename_i q; simp only [decide_eq_true_eq] at q
      split
      · omega
      · exact bad (by omega)
  · split
    · refine m_within ?_
      split
      · rename_i q; simp only [decide_eq_true_eq] at q; exact bad (by omega)
      · rename_i q; simp only [decide_eq_true_eq, Decidable.not_not] at q; exact good (by omega)
    · exact bad (by omega)
theorem small_two {n m e : Int} : (twoGen n m e).degrees.length ≤ 1000000 ∧ (twoGen n m e).images.length ≤ 1000000 ∧ cnt (twoGen n m e).images ≤ 100000000000 := by simp [twoGen, cnt]
theorem projR_small (a0 a1 : Int) : (projR a0 a1).1.degrees.length ≤ 1000000 ∧ (projR a0 a1).1.images.length ≤ 1000000 ∧ cnt (projR a0 a1).1.images ≤ 100000000000 := by
  unfold projR; split
  · exact small_two
  · simp [cnt]
def sphereR (a0 : Int) : Alg × Int := if a0 % 2 = 0 ∧ 2 ≤ a0 ∧ a0 ≤ 6 then (twoGen a0 (2 * a0 - 1) 2, 0) else if a0 % 2 = 1 ∧ 1 ≤ a0 ∧ a0 ≤ 12 then (⟨[a0], [⟨[]⟩]⟩, 0) else (⟨[], []⟩, 2)
theorem sphereR_small (a0 : Int) : (sphereR a0).1.degrees.length ≤ 1000000 ∧ (sphereR a0).1.images.length ≤ 1000000 ∧ cnt (sphereR a0).1.images ≤ 100000000000 := by
  unfold sphereR; split
  · exact small_two
  · split <;> simp [cnt]
theorem m_l02Free1 {n : Int} {K : Alg → Prop} (h : K ⟨[n], [⟨[]⟩]⟩) : f_spec_l02Free [n] K := by
  unfold f_spec_l02Free f_spec_l01Own Room
  exact ⟨⟨by simp, by simp, h⟩, by simp, by simp, h⟩
theorem m_specSphere {a0 : Int} {K : Alg → Int → Prop} (h : K (sphereR a0).1 (sphereR a0).2) : f_spec_SphereModel a0 K := by
  unfold f_spec_SphereModel
  have bad : ¬ (a0 % 2 = 0 ∧ 2 ≤ a0 ∧ a0 ≤ 6) → ¬ (a0 % 2 = 1 ∧ 1 ≤ a0 ∧ a0 ≤ 12) → K (⟨[], []⟩ : Alg) 2 := by
    intro h1 h2; rw [sphereR, if_neg h1, if_neg h2] at h; exact h
  have even : (a0 % 2 = 0 ∧ 2 ≤ a0 ∧ a0 ≤ 6) → f_spec_l08Power 0 2 (fun r => K (⟨[a0, IntKind.i64.wrap ((IntKind.i64.wrap (2 * a0)) - 1)], [(⟨[]⟩ : Vc.Form), r]⟩ : Alg) 0) := by
    intro hg
    rw [sphereR, if_pos hg] at h
    rw [i64_in (2 * a0) (by omega), i64_in (2 * a0 - 1) (by omega)]
    exact m_l08Power (by omega) h
  have odd : (a0 % 2 = 1 ∧ 1 ≤ a0 ∧ a0 ≤ 12) → f_spec_l02Free [a0] (fun r => K r 0) := by
    intro hg
    rw [sphereR, if_neg (by omega), if_pos hg] at h
    exact m_l02Free1 h
  refine m_l01In ?_
  split
  · rename_i q; simp only [decide_eq_true_eq] at q; exact bad (by omega) (by omega)
  · rename_i q
    simp only [decide_eq_true_eq, Decidable.not_not] at q
    have ht : Int.tmod a0 2 = a0 % 2 := Int.tmod_eq_emod_of_nonneg (by omega)
    rw [ht]
    split
    · split
      · exact bad (by omega) (by omega)
      · rw [if_neg (by omega)]; exact even (by omega)
    · exact odd (by omega)
theorem m_implSphere {a0 : Int} (hf : Fit .i64 a0) {K : Alg → Int → Prop} (h : K (sphereR a0).1 (sphereR a0).2) : f_impl_SphereModel a0 K := by
  unfold f_impl_SphereModel
  have bad : ¬ (a0 % 2 = 0 ∧ 2 ≤ a0 ∧ a0 ≤ 6) → ¬ (a0 % 2 = 1 ∧ 1 ≤ a0 ∧ a0 ≤ 12) → K (⟨[], []⟩ : Alg) 2 := by
    intro h1 h2; rw [sphereR, if_neg h1, if_neg h2] at h; exact h
  have even : (a0 % 2 = 0 ∧ 2 ≤ a0 ∧ a0 ≤ 6) → f_impl_powerForm 0 2 (fun r => K (⟨[a0, IntKind.i64.wrap ((IntKind.i64.wrap (2 * a0)) - 1)], [(⟨[]⟩ : Vc.Form), r]⟩ : Alg) 0) := by
    intro hg
    rw [sphereR, if_pos hg] at h
    rw [i64_in (2 * a0) (by omega), i64_in (2 * a0 - 1) (by omega)]
    exact m_powerForm (by omega) (by omega) h
  have odd : (a0 % 2 = 1 ∧ 1 ≤ a0 ∧ a0 ≤ 12) → True ∧ K (⟨[a0], List.replicate 1 ((⟨[]⟩ : Vc.Form) : Vc.Form)⟩ : Alg) 0 := by
    intro hg
    rw [sphereR, if_neg (by omega), if_pos hg] at h
    exact ⟨trivial, h⟩
  have ht0 : Int.tmod a0 2 = 0 ↔ a0 % 2 = 0 := by
    constructor
    · intro q; exact Int.emod_eq_zero_of_dvd (Int.dvd_of_tmod_eq_zero q)
    · intro q; exact Int.tmod_eq_zero_of_dvd (Int.dvd_of_emod_eq_zero q)
  split
  · rename_i q0
    have q1 := ht0.1 q0
    refine m_within ?_
    split
    · rename_i q; simp only [decide_eq_true_eq] at q; exact even (by omega)
    · rename_i q; simp only [decide_eq_true_eq] at q
      rw [if_neg (by simpa using q0)]; exact bad (by omega) (by omega)
  · rename_i q0
    have q1 : ¬ a0 % 2 = 0 := fun e => q0 (ht0.2 e)
    refine m_within ?_
    split
    · rename_i q; simp only [decide_eq_true_eq] at q; exact odd (by omega)
    · rename_i q; simp only [decide_eq_true_eq] at q; exact bad (by omega) (by omega)
end Go.Proofs.Ytjngkbalaipdbaa
