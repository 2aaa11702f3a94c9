/- Plain laws: the two products of monomials are one; forms out of sums. -/
import Derived.Test.YtaagfepgbofmlaaGreatVp1
set_option linter.unusedVariables false
set_option linter.unusedSimpArgs false
namespace Go.Proofs.YtaagfepgbofmlaaGreat
open Go Vc
theorem oddMono {ds : List Int} {a : A8} (h : WkMono ds a) (hl : ds.length ≤ 8) {i : Nat} (hi : i < ds.length) (ho : Int.tmod (ds.getD i default) 2 ≠ 0) : a.get i ≤ 1 := ((h i (by omega)).1 hi).2 ho
theorem add_len {ds : List Int} {a b s : A8} (ha : WkMono ds a) (hb : WkMono ds b) (hl : ds.length ≤ 8) (h : ∀ j, j < 8 → s.get j = if j < ds.length then a.get j + b.get j else 0) : s = a.add b := by
  refine A8.ext_get fun i hi => ?_
  rw [h i hi, A8.get_add]
  split
  · rfl
  · rw [(ha i hi).2 (by omega), (hb i hi).2 (by omega)]; rfl
theorem m_l01Joined {ds : List Int} {a b : A8} {K : A8 → Int → Prop} (hd : OkDeg ds) (ha : WkMono ds a) (hb : WkMono ds b) (pa : ∀ i, i < 8 → 0 ≤ a.get i) (pb : ∀ i, i < 8 → 0 ≤ b.get i)
    (h : K (joined ds a b).1 (joined ds a b).2) : f_spec_l01Joined ds a b K := by
  have h8 := hd.1
  unfold f_spec_l01Joined
  refine forN_inv (fun i (s : A8 × Int) => (∀ j, j < i → j < ds.length → Int.tmod (ds.getD j default) 2 ≠ 0 → ¬ (0 < a.get j ∧ 0 < b.get j)) ∧ (∀ j, j < 8 → s.1.get j = if j < i then a.get j + b.get j else 0) ∧ (s.2 = 1 ∨ s.2 = -1) ∧ s.2 * sg (totF ds a b (ds.length - i) i) = sg (totF ds a b ds.length 0)) ds.length ?_ ?_ _ _ _ (by omega) ⟨by intro j hj; omega, by intro j hj; simp [A8.get_zero], by simp, by simp⟩
  · rintro i ⟨s1, s2⟩ next hi ⟨h1, h2, h3, h4⟩ hn
    have hi8 : i < 8 := by omega
    have pai := pa i hi8
    have pbi := pb i hi8
    have a20 := ((ha i hi8).1 hi).1
    have b20 := ((hb i hi8).1 hi).1
    have hr : ds.length - i = (ds.length - (i + 1)) + 1 := by omega
    rw [hr] at h4
    simp only [totF] at h4
    dsimp only at h1 h2 h3 h4 ⊢
    have hw : IntKind.u8.wrap (a.get i + b.get i) = a.get i + b.get i := u8_in _ (by omega)
    rw [hw]
    have hset : ∀ j, j < 8 → (s1.set i (a.get i + b.get i)).get j = if j < i + 1 then a.get j + b.get j else 0 := by
      intro j hj
      rw [A8.get_set hi8]
      by_cases hji : j = i
      · subst hji; simp
      · rw [if_neg hji, h2 j hj]
        by_cases hj2 : j < i
        · rw [if_pos hj2, if_pos (by omega)]
        · rw [if_neg hj2, if_neg (by omega)]
    refine ⟨by omega, by omega, by omega, ?_⟩
    split
    · rename_i he
      rw [if_pos (.inl he), Int.zero_add] at h4
      refine hn _ ⟨fun j hj hjl ho => ?_, hset, h3, h4⟩
      by_cases hji : j = i
      · subst hji; exact absurd he ho
      · exact h1 j (by omega) hjl ho
    · rename_i he
      have a1 := oddMono ha h8 hi he
      have b1 := oddMono hb h8 hi he
      refine ⟨by omega, ?_⟩
      rw [A8.get_set hi8, if_pos rfl]
      split
      · rename_i hc
        have : Clash ds a b := ⟨i, hi, he, by omega, by omega⟩
        simpa [joined, this] using h
      · rename_i hc
        have hnc : ∀ j, j < i + 1 → j < ds.length → Int.tmod (ds.getD j default) 2 ≠ 0 → ¬ (0 < a.get j ∧ 0 < b.get j) := by
          intro j hj hjl ho
          by_cases hji : j = i
          · subst hji; omega
          · exact h1 j (by omega) hjl ho
        rw [i64_in _ (by omega)]
        refine whileP_inv (fun (t : Int × Int) => ((i : Int) + 1 ≤ t.1 ∧ t.1 ≤ ds.length) ∧ (t.2 = 1 ∨ t.2 = -1) ∧ (b.get i = 1 → t.2 * sg (cntF ds a (ds.length - t.1.toNat) t.1.toNat) = s2 * sg (cntF ds a (ds.length - (i + 1)) (i + 1))) ∧ (b.get i ≠ 1 → t.2 = s2)) (fun t => ds.length - t.1.toNat) ?_ ⟨by omega, h3, fun _ => by rw [show ((i : Int) + 1).toNat = i + 1 by omega], fun _ => rfl⟩
        rintro ⟨j, c⟩ next' ⟨⟨q1, q2⟩, q3, q4, q5⟩ hn'
        dsimp only at q1 q2 q3 q4 q5 ⊢
        split
        · rename_i hj
          refine ⟨by omega, ?_⟩
          split
          · rename_i hb1
            have hjn : j.toNat < ds.length := by omega
            refine ⟨by omega, ?_⟩
            have q4 := q4 hb1
            have hr2 : ds.length - j.toNat = (ds.length - (j.toNat + 1)) + 1 := by omega
            rw [hr2] at q4
            simp only [cntF] at q4
            have hj1 : (j + 1).toNat = j.toNat + 1 := by omega
            rw [i64_in (j + 1) (by omega)]
            have pj := pa j.toNat (by omega)
            split
            · rename_i ho
              have aj := oddMono ha h8 hjn ho
              have od := hd.odd hjn
              have od1 : Int.tmod (ds.getD j.toNat default) 2 = 1 := by omega
              rw [od1, Int.one_mul] at q4
              refine ⟨by omega, ?_⟩
              split
              · rename_i haj
                rw [haj, Int.add_comm, sg_neg] at q4
                rw [i64_in (0 - c) (by omega)]
                refine hn' _ ⟨⟨by dsimp only; omega, by dsimp only; omega⟩, by dsimp only; omega, fun _ => ?_, fun hne => absurd hb1 hne⟩ (by dsimp only; omega)
                dsimp only
                rw [hj1, Int.zero_sub, Int.neg_mul, ← Int.mul_neg]; exact q4
              · rename_i haj
                rw [show a.get j.toNat = 0 by omega, Int.zero_add] at q4
                refine hn' _ ⟨⟨by dsimp only; omega, by dsimp only; omega⟩, q3, fun _ => ?_, fun hne => absurd hb1 hne⟩ (by dsimp only; omega)
                dsimp only
                rw [hj1]; exact q4
            · rename_i ho
              rw [show Int.tmod (ds.getD j.toNat default) 2 = 0 by simpa using ho, Int.zero_mul, Int.zero_add] at q4
              refine hn' _ ⟨⟨by dsimp only; omega, by dsimp only; omega⟩, q3, fun _ => ?_, fun hne => absurd hb1 hne⟩ (by dsimp only; omega)
              dsimp only
              rw [hj1]; exact q4
          · rename_i hb1
            refine hn _ ⟨hnc, hset, q3, ?_⟩
            rw [if_pos (.inr (by omega)), Int.zero_add] at h4
            dsimp only
            rw [q5 hb1]; exact h4
        · rename_i hj
          refine hn _ ⟨hnc, hset, q3, ?_⟩
          dsimp only
          by_cases hb1 : b.get i = 1
          · have q4 := q4 hb1
            rw [show ds.length - j.toNat = 0 by omega] at q4
            simp only [cntF] at q4
            rw [show sg 0 = 1 from rfl, Int.mul_one] at q4
            rw [if_neg (by omega), sg_add, ← Int.mul_assoc] at h4
            rw [q4]; exact h4
          · rw [if_pos (.inr (by omega)), Int.zero_add] at h4
            rw [q5 hb1]; exact h4
  · rintro ⟨s1, s2⟩ ⟨h1, h2, h3, h4⟩
    have hnc : ¬ Clash ds a b := fun ⟨i, hi, ho, hp⟩ => h1 i hi hi ho hp
    rw [Nat.sub_self] at h4
    simp only [totF] at h4
    rw [show sg 0 = 1 from rfl, Int.mul_one] at h4
    have hs : s1 = a.add b := add_len ha hb h8 h2
    dsimp only at h4 ⊢
    rw [hs, h4]
    simpa [joined, hnc] using h
theorem m_times {ds : List Int} {a b : A8} {K : A8 → Int → Prop} (hd : OkDeg ds) (ha : WkMono ds a) (hb : WkMono ds b) (pa : ∀ i, i < 8 → 0 ≤ a.get i) (pb : ∀ i, i < 8 → 0 ≤ b.get i)
    (h : K (joined ds a b).1 (joined ds a b).2) : f_impl_power_times a ds b K := by
  have h8 := hd.1
  have bnd : ∀ (x : A8), WkMono ds x → ∀ i, i < 8 → x.get i ≤ 100 := by
    intro x hx i hi
    by_cases hl : i < ds.length
    · exact ((hx i hi).1 hl).1
    · rw [(hx i hi).2 (by omega)]; omega
  unfold f_impl_power_times
  refine forN_inv (fun i (c : Int) => (∀ j, j < i → j < ds.length → Int.tmod (ds.getD j default) 2 ≠ 0 → ¬ (0 < a.get j ∧ 0 < b.get j)) ∧ (0 ≤ c ∧ c ≤ 8 * i) ∧ c + totF ds a b (ds.length - i) i = totF ds a b ds.length 0) ds.length ?_ ?_ _ _ _ (by omega) ⟨by intro j hj; omega, by omega, by simp⟩
  · rintro i c next hi ⟨h1, h2, h4⟩ hn
    have hi8 : i < 8 := by omega
    have pai := pa i hi8
    have pbi := pb i hi8
    have hr : ds.length - i = (ds.length - (i + 1)) + 1 := by omega
    rw [hr] at h4
    simp only [totF] at h4
    split
    · rename_i he
      rw [if_pos (.inl he), Int.zero_add] at h4
      refine hn _ ⟨fun j hj hjl ho => ?_, by omega, h4⟩
      by_cases hji : j = i
      · subst hji; exact absurd he ho
      · exact h1 j (by omega) hjl ho
    · rename_i he
      refine ⟨by omega, ?_⟩
      have hnc : ¬ (0 < a.get i ∧ 0 < b.get i) → ∀ j, j < i + 1 → j < ds.length → Int.tmod (ds.getD j default) 2 ≠ 0 → ¬ (0 < a.get j ∧ 0 < b.get j) := by
        intro hno j hj hjl ho
        by_cases hji : j = i
        · subst hji; exact hno
        · exact h1 j (by omega) hjl ho
      split
      · rename_i hap
        refine ⟨by omega, ?_⟩
        split
        · rename_i hbp
          have : Clash ds a b := ⟨i, hi, he, by omega, by omega⟩
          simpa [joined, this] using h
        · rename_i hbp
          rw [if_pos (.inr (by omega)), Int.zero_add] at h4
          exact ⟨by omega, hn _ ⟨hnc (by omega), by omega, h4⟩⟩
      · rename_i hap
        refine ⟨by omega, ?_⟩
        split
        · rename_i hbp
          have he0 : ¬ (Int.tmod (ds.getD i default) 2 = 0 ∨ b.get i ≤ 0) := by rintro (q | q); exact he q; omega
          rw [if_neg he0] at h4
          rw [i64_in _ (by omega)]
          refine whileP_inv (fun (t : Int × Int) => ((i : Int) + 1 ≤ t.1 ∧ t.1 ≤ ds.length) ∧ (0 ≤ t.2 ∧ t.2 ≤ 8 * i + (t.1 - (i + 1))) ∧ t.2 + cntF ds a (ds.length - t.1.toNat) t.1.toNat = c + cntF ds a (ds.length - (i + 1)) (i + 1)) (fun t => ds.length - t.1.toNat) ?_ ⟨by omega, by omega, by rw [show ((i : Int) + 1).toNat = i + 1 by omega]⟩
          rintro ⟨j, d⟩ next' ⟨⟨q1, q2⟩, q3, q4⟩ hn'
          dsimp only at q1 q2 q3 q4 ⊢
          split
          · rename_i hj
            have hjn : j.toNat < ds.length := by omega
            refine ⟨by omega, by omega, ?_⟩
            have hr2 : ds.length - j.toNat = (ds.length - (j.toNat + 1)) + 1 := by omega
            rw [hr2] at q4
            simp only [cntF] at q4
            have hj1 : (j + 1).toNat = j.toNat + 1 := by omega
            have pj := pa j.toNat (by omega)
            have hm : 0 ≤ Int.tmod (ds.getD j.toNat default) 2 * a.get j.toNat ∧ Int.tmod (ds.getD j.toNat default) 2 * a.get j.toNat ≤ 1 := by
              rcases hd.odd hjn with od | od
              · rw [od]; omega
              · have := oddMono ha h8 hjn (by omega)
                rw [od]; omega
            rw [i64_in (Int.tmod (ds.getD j.toNat default) 2 * a.get j.toNat) (by omega), i64_in (d + Int.tmod (ds.getD j.toNat default) 2 * a.get j.toNat) (by omega), i64_in (j + 1) (by omega)]
            refine hn' _ ⟨⟨by dsimp only; omega, by dsimp only; omega⟩, by dsimp only; omega, ?_⟩ (by dsimp only; omega)
            dsimp only
            rw [hj1]; omega
          · rename_i hj
            rw [show ds.length - j.toNat = 0 by omega] at q4
            simp only [cntF] at q4
            refine hn _ ⟨hnc (by omega), by omega, by omega⟩
        · rename_i hbp
          rw [if_pos (.inr (by omega)), Int.zero_add] at h4
          exact hn _ ⟨hnc (by omega), by omega, h4⟩
  · rintro c ⟨h1, h2, h4⟩
    have hnc : ¬ Clash ds a b := fun ⟨i, hi, ho, hp⟩ => h1 i hi hi ho hp
    rw [Nat.sub_self] at h4
    simp only [totF, Int.add_zero] at h4
    refine forN_inv (fun i (s : A8) => ∀ j, j < 8 → s.get j = if j < i then a.get j + b.get j else a.get j) 8 ?_ ?_ _ _ _ (by omega) (by intro j hj; simp)
    · intro i s next hi hI hn
      have e1 := hI i hi
      rw [if_neg (by omega)] at e1
      have := bnd a ha i hi
      have := bnd b hb i hi
      have := pa i hi
      have := pb i hi
      rw [e1, i64_in _ (by omega)]
      refine hn _ fun j hj => ?_
      rw [A8.get_set hi]
      by_cases hji : j = i
      · subst hji; simp
      · rw [if_neg hji, hI j hj]
        by_cases hj2 : j < i
        · rw [if_pos hj2, if_pos (by omega)]
        · rw [if_neg hj2, if_neg (by omega)]
    · intro s hI
      have hs : s = a.add b := A8.ext_get fun i hi => by rw [hI i hi, if_pos hi, A8.get_add]
      have hj : joined ds a b = (a.add b, sg c) := by simp [joined, hnc, h4]
      rw [hj] at h
      rw [hs]
      split
      · rename_i ho
        have : sg c = -1 := by unfold sg; rw [Int.tmod_eq_emod_of_nonneg (by omega)] at ho; rw [if_neg (by omega)]
        rw [this] at h; exact h
      · rename_i ho
        have : sg c = 1 := by unfold sg; rw [Int.tmod_eq_emod_of_nonneg (by omega)] at ho; rw [if_pos (by omega)]
        rw [this] at h; exact h
end Go.Proofs.YtaagfepgbofmlaaGreat
