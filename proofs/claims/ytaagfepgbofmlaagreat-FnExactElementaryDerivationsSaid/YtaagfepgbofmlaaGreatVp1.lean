/- Plain laws: products of monomials, by the program's text and by the reference's. -/
import Derived.Test.YtaagfepgbofmlaaGreatVp0
import Derived.Test.YtaagfepgbofmlaaGreatGA
set_option linter.unusedVariables false
set_option linter.unusedSimpArgs false
namespace Go.Proofs.YtaagfepgbofmlaaGreat
open Go Vc
theorem m_l01In {a b c : Int} {K : Bool → Prop} (h : K (decide (b ≤ a ∧ a ≤ c))) : f_spec_l01In a b c K := by
  unfold f_spec_l01In
  split
  · rename_i h1; simpa [show b ≤ a from h1] using h
  · rename_i h1; simpa [show ¬ b ≤ a from h1] using h
theorem m_l01Degrees {ds : List Int} {K : Bool → Prop} (h : K (decide (OkDeg ds))) : f_spec_l01Degrees ds K := by
  unfold f_spec_l01Degrees
  refine forN_inv (fun i _ => ∀ j, j < i → 1 ≤ ds.getD j default ∧ ds.getD j default ≤ 12) ds.length ?_ ?_ _ _ _ (by omega) (by intro j hj; omega)
  · intro i s next hi hI hn
    refine m_l01In ?_
    split
    · rename_i h1
      have : ¬ OkDeg ds := fun hd => h1 (by simpa using hd.2 i hi)
      simpa [this] using h
    · rename_i h1
      refine hn _ fun j hj => ?_
      by_cases hji : j = i
      · subst hji; simpa using h1
      · exact hI j (by omega)
  · intro s hI
    have : (decide ((ds.length : Int) ≤ 8)) = decide (OkDeg ds) := by
      rw [decide_eq_decide]; unfold OkDeg
      constructor
      · intro h8; exact ⟨by omega, hI⟩
      · intro h8; have := h8.1; omega
    rw [this]; exact h
theorem m_l01Mono {ds : List Int} {a : A8} {K : Bool → Prop} (ha : ∀ i, i < 8 → 0 ≤ a.get i) (hl : ds.length ≤ 8) (h : K (decide (OkMono ds a))) : f_spec_l01Mono ds a K := by
  unfold f_spec_l01Mono
  refine forN_inv (fun i _ => ∀ j, j < i → (j < ds.length → a.get j ≤ 20 ∧ (Int.tmod (ds.getD j default) 2 ≠ 0 → a.get j ≤ 1)) ∧ (ds.length ≤ j → a.get j = 0)) 8 ?_ ?_ _ _ _ (by omega) (by intro j hj; omega)
  · intro i s next hi hI hn
    have no : ¬ ((i < ds.length → a.get i ≤ 20 ∧ (Int.tmod (ds.getD i default) 2 ≠ 0 → a.get i ≤ 1)) ∧ (ds.length ≤ i → a.get i = 0)) → K false := by
      intro hno
      have : ¬ OkMono ds a := fun hm => hno (hm i hi)
      simpa [this] using h
    have yes : ((i < ds.length → a.get i ≤ 20 ∧ (Int.tmod (ds.getD i default) 2 ≠ 0 → a.get i ≤ 1)) ∧ (ds.length ≤ i → a.get i = 0)) → next () := by
      intro hy
      refine hn _ fun j hj => ?_
      by_cases hji : j = i
      · subst hji; exact hy
      · exact hI j (by omega)
    split
    · split
      · exact no (by intro q; have := q.2 (by omega); contradiction)
      · rename_i q
        exact yes ⟨by omega, by intro _; simpa using q⟩
    · split
      · exact no (by intro q; have := (q.1 (by omega)).1; omega)
      · refine ⟨by omega, ?_⟩
        split
        · split
          · exact no (by intro q; rename_i q1 q2; have := (q.1 (by omega)).2 q1; omega)
          · exact yes ⟨fun _ => ⟨by omega, fun _ => by omega⟩, by omega⟩
        · rename_i q1
          exact yes ⟨fun _ => ⟨by omega, fun q2 => absurd q2 q1⟩, by omega⟩
  · intro s hI
    have : OkMono ds a := fun i hi => hI i hi
    simpa [this] using h
theorem m_isMonomial {ds : List Int} {a : A8} {K : Bool → Prop} (hd : OkDeg ds) (ha : ∀ i, i < 8 → 0 ≤ a.get i) (h : K (decide (OkMono ds a))) : f_impl_isMonomial ds a K := by
  unfold f_impl_isMonomial
  refine forN_inv (fun i _ => ∀ j, j < i → (j < ds.length → a.get j ≤ 20 ∧ (Int.tmod (ds.getD j default) 2 ≠ 0 → a.get j ≤ 1)) ∧ (ds.length ≤ j → a.get j = 0)) 8 ?_ ?_ _ _ _ (by omega) (by intro j hj; omega)
  · intro i s next hi hI hn
    have hai := ha i hi
    have no : ¬ ((i < ds.length → a.get i ≤ 20 ∧ (Int.tmod (ds.getD i default) 2 ≠ 0 → a.get i ≤ 1)) ∧ (ds.length ≤ i → a.get i = 0)) → K false := by
      intro hno
      have : ¬ OkMono ds a := fun hm => hno (hm i hi)
      simpa [this] using h
    have yes : ((i < ds.length → a.get i ≤ 20 ∧ (Int.tmod (ds.getD i default) 2 ≠ 0 → a.get i ≤ 1)) ∧ (ds.length ≤ i → a.get i = 0)) → next () := by
      intro hy
      refine hn _ fun j hj => ?_
      by_cases hji : j = i
      · subst hji; exact hy
      · exact hI j (by omega)
    split
    · refine ⟨by omega, ?_⟩
      rename_i hl
      have hod := hd.odd (show i < ds.length by omega)
      split
      · rename_i h1
        split
        · exact no (by intro q; have := (q.1 (by omega)).2 (by omega); omega)
        · exact yes ⟨fun _ => ⟨by omega, fun _ => by omega⟩, by omega⟩
      · rename_i h1
        split
        · exact no (by intro q; have := (q.1 (by omega)).1; omega)
        · exact yes ⟨fun _ => ⟨by omega, fun q => by omega⟩, by omega⟩
    · split
      · exact no (by intro q; have := q.2 (by omega); omega)
      · exact yes ⟨by omega, fun _ => by omega⟩
  · intro s hI
    have : OkMono ds a := fun i hi => hI i hi
    simpa [this] using h
theorem m_within {a b c : Int} {K : Bool → Prop} (h : K (decide (b ≤ a ∧ a ≤ c))) : f_impl_within a b c K := by
  unfold f_impl_within
  split
  · rename_i h1; simpa [show b ≤ a from h1] using h
  · rename_i h1; simpa [show ¬ b ≤ a from h1] using h
theorem m_AreDegrees {ds : List Int} {K : Bool → Prop} (h : K (decide (OkDeg ds))) : f_impl_AreDegrees ds K := by
  unfold f_impl_AreDegrees
  split
  · rename_i h8
    unfold f_slices_ContainsFunc_int64_int64 f_slices_IndexFunc_int64_int64
    refine forN_inv (fun i _ => ∀ j, j < i → 1 ≤ ds.getD j default ∧ ds.getD j default ≤ 12) ds.length ?_ ?_ _ _ _ (by omega) (by intro j hj; omega)
    · intro i s next hi hI hn
      unfold f_impl_AreDegrees_1
      refine m_within ?_
      dsimp only
      split
      · rename_i h1
        have : ¬ OkDeg ds := fun hd => by have := hd.2 i hi; simp only [Bool.not_eq_true', decide_eq_false_iff_not] at h1; exact h1 this
        simpa [this, show (i : Int) ≥ 0 by omega] using h
      · rename_i h1
        refine hn _ fun j hj => ?_
        by_cases hji : j = i
        · subst hji; simp only [Bool.not_eq_true', decide_eq_false_iff_not, Decidable.not_not] at h1; exact h1
        · exact hI j (by omega)
    · intro s hI
      have : OkDeg ds := ⟨by omega, hI⟩
      simpa [this] using h
  · have : ¬ OkDeg ds := fun hd => by have := hd.1; omega
    simpa [this] using h
theorem m_powerOf {a : A8} {K : A8 → Prop} (ha : FitA .u8 a) (h : K a) : f_impl_powerOf a K := by
  unfold f_impl_powerOf
  refine forN_inv (fun i (s : A8) => ∀ j, j < 8 → s.get j = if j < i then a.get j else 0) 8 ?_ ?_ _ _ _ (by omega) (by intro j hj; simp [A8.get_zero])
  · intro i s next hi hI hn
    have := fit_u8 (fitA_get ha hi)
    rw [i64_in _ (by omega)]
    refine hn _ fun j hj => ?_
    rw [A8.get_set hi]
    by_cases hji : j = i
    · subst hji; simp
    · rw [if_neg hji, hI j hj]
      by_cases hj2 : j < i
      · rw [if_pos hj2, if_pos (by omega)]
      · rw [if_neg hj2, if_neg (by omega)]
  · intro s hI
    have : s = a := A8.ext_get fun i hi => by rw [hI i hi, if_pos hi]
    rw [this]; exact h
theorem m_toMonomial {a : A8} {K : A8 → Prop} (h : K a) : f_laws_toMonomial a K := by
  unfold f_laws_toMonomial
  refine forN_inv (fun i (s : A8) => ∀ j, j < 8 → s.get j = if j < i then a.get j else 0) 8 ?_ ?_ _ _ _ (by omega) (by intro j hj; simp [A8.get_zero])
  · intro i s next hi hI hn
    refine hn _ fun j hj => ?_
    rw [A8.get_set hi]
    by_cases hji : j = i
    · subst hji; simp
    · rw [if_neg hji, hI j hj]
      by_cases hj2 : j < i
      · rw [if_pos hj2, if_pos (by omega)]
      · rw [if_neg hj2, if_neg (by omega)]
  · intro s hI
    have : s = a := A8.ext_get fun i hi => by rw [hI i hi, if_pos hi]
    rw [this]; exact h
theorem m_toInt64S {ds : List Int} {K : List Int → Prop} (hl : ds.length ≤ 1048576) (h : K ds) : f_laws_toInt64S ds K := by
  unfold f_laws_toInt64S
  refine ⟨by omega, ?_⟩
  refine forN_inv (fun i (s : List Int) => s.length = ds.length ∧ ∀ j, j < i → s.getD j default = ds.getD j default) ds.length ?_ ?_ _ _ _ (by omega) (by simp)
  · intro i s next hi hI hn
    refine ⟨by omega, hn _ ⟨by simpa using hI.1, fun j hj => ?_⟩⟩
    by_cases hji : j = i
    · subst hji; simp [List.getD, hI.1, hi]
    · rw [← hI.2 j (by omega)]; simp [List.getD, List.getElem?_set_ne (fun e => hji e.symm)]
  · intro s hI
    have : s = ds := by
      apply List.ext_getElem hI.1
      intro i h1 h2
      have := hI.2 i h2
      simpa [List.getD, h1, h2] using this
    rw [this]; exact h
theorem m_eqMonomial {a b : A8} {K : Bool → Prop} (h : K (decide (a = b))) : f_laws_eqMonomial a b K := by
  unfold f_laws_eqMonomial
  refine forN_inv (fun i _ => ∀ j, j < i → a.get j = b.get j) 8 ?_ ?_ _ _ _ (by omega) (by intro j hj; omega)
  · intro i s next hi hI hn
    split
    · rename_i h1
      have : ¬ a = b := fun e => h1 (by rw [e])
      simpa [this] using h
    · rename_i h1
      refine hn _ fun j hj => ?_
      by_cases hji : j = i
      · subst hji; simpa using h1
      · exact hI j (by omega)
  · intro s hI
    have : a = b := A8.ext_get hI
    simpa [this] using h
theorem m_eqInt64S {a b : List Int} {K : Bool → Prop} (h : K (decide (a = b))) : f_laws_eqInt64S a b K := by
  unfold f_laws_eqInt64S
  split
  · rename_i h1
    have : ¬ a = b := fun e => h1 (by rw [e])
    simpa [this] using h
  · rename_i h1
    have hl : a.length = b.length := by omega
    refine forN_inv (fun i _ => ∀ j, j < i → a.getD j default = b.getD j default) a.length ?_ ?_ _ _ _ (by omega) (by intro j hj; omega)
    · intro i s next hi hI hn
      refine ⟨by omega, ?_⟩
      split
      · rename_i h1
        have : ¬ a = b := fun e => h1 (by rw [e])
        simpa [this] using h
      · rename_i h1
        refine hn _ fun j hj => ?_
        by_cases hji : j = i
        · subst hji; simpa using h1
        · exact hI j (by omega)
    · intro s hI
      have : a = b := by
        apply List.ext_getElem hl
        intro i h1 h2
        have := hI i h1
        simpa [List.getD, h1, h2] using this
      simpa [this] using h
end Go.Proofs.YtaagfepgbofmlaaGreat
