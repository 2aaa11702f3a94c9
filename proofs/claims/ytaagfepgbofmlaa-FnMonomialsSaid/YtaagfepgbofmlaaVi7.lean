/- Plain law of row 19. -/
import Derived.Test.YtaagfepgbofmlaaVi3
set_option linter.unusedVariables false
set_option linter.unusedSimpArgs false
namespace Go.Proofs.Ytaagfepgbofmlaa
open Go Vc
theorem neq_no {α : Type} [DecidableEq α] {c : α} {A B : Prop} (h : B) : if c ≠ c then A else B := by simpa using h
theorem mons_same (ds : List Int) (n : Int) : ∃ F c, (∀ K : List A8 → Int → Prop, K F c → f_spec_MonomialsOf ds n K) ∧ (∀ K : List A8 → Int → Prop, K F c → f_impl_MonomialsOf ds n K) ∧ F.length ≤ 401 := by
  by_cases hd : OkDeg ds
  · by_cases hn : 0 ≤ n ∧ n ≤ 40
    · by_cases hr : 400 < (monoR ds n).length
      · exact ⟨[], 3, fun K hK => m_spec3 (fun z => absurd hd z) (fun _ z => absurd hn z) (fun _ _ _ => hK) (fun _ _ z => by omega), fun K hK => m_impl3 (fun z => absurd hd z) (fun _ z => absurd hn z) (fun _ _ _ => hK) (fun _ _ z => by omega), by simp⟩
      · exact ⟨monoR ds n, 0, fun K hK => m_spec3 (fun z => absurd hd z) (fun _ z => absurd hn z) (fun _ _ z => absurd z hr) (fun _ _ _ => hK), fun K hK => m_impl3 (fun z => absurd hd z) (fun _ z => absurd hn z) (fun _ _ z => absurd z hr) (fun _ _ _ => hK), monoR_len ds n⟩
    · exact ⟨[], 2, fun K hK => m_spec3 (fun z => absurd hd z) (fun _ _ => hK) (fun _ z => absurd z hn) (fun _ z => absurd z hn), fun K hK => m_impl3 (fun z => absurd hd z) (fun _ _ => hK) (fun _ z => absurd z hn) (fun _ z => absurd z hn), by simp⟩
  · exact ⟨[], 1, fun K hK => m_spec3 (fun _ => hK) (fun z => absurd z hd) (fun z => absurd z hd) (fun z => absurd z hd), fun K hK => m_impl3 (fun _ => hK) (fun z => absurd z hd) (fun z => absurd z hd) (fun z => absurd z hd), by simp⟩
theorem inv_same (x : Int) : ∃ r c, (∀ K : Int → Int → Prop, K r c → f_impl_InverseNumber x K) ∧ (∀ K : Int → Int → Prop, K r c → f_spec_InverseNumber x K) ∧ (c = 0 → Int.tmod (IntKind.i64.wrap (x * r)) 10007 = 1) := by
  by_cases hx : 1 ≤ x ∧ x ≤ 10006
  · obtain ⟨q, rfl⟩ : ∃ q : Nat, x = q := ⟨x.toNat, by omega⟩
    refine ⟨invN q, 0, fun K h => ?_, fun K h => ?_, fun _ => ?_⟩
    · unfold f_impl_InverseNumber f_impl_isFactor
      refine m_within ?_
      rw [decide_eq_true hx]
      exact if_neg' (by simp) (m_inverseI (by omega) h)
    · unfold f_spec_InverseNumber
      refine m_l01In ?_
      rw [decide_eq_true hx]
      exact if_neg' (by simp) (m_inverseS (by omega) h)
    · rw [mulmod (by omega) (invN_bd q), inv_right (by omega) (by omega)]; rfl
  · refine ⟨0, 2, fun K h => ?_, fun K h => ?_, fun z => by omega⟩
    · unfold f_impl_InverseNumber f_impl_isFactor
      refine m_within ?_
      rw [decide_eq_false hx]
      exact if_pos' (by simp) h
    · unfold f_spec_InverseNumber
      refine m_l01In ?_
      rw [decide_eq_false hx]
      exact if_pos' (by simp) h
theorem m_rest {c : List Int} (hc : OkCode c) {K : Bool → Prop} (hT : K true) : f_spec_DrawMonomialsOf c (fun r399 r404 => f_impl_MonomialsOf r399 r404 (fun r413 r418 => f_spec_MonomialsOf r399 r404 (fun r427 r432 => (if r418 ≠ r432 then K false else (if (r413.length : Int) ≠ (r427.length : Int) then K false else forN (fun i487 (s488 : Unit) next490 => ((0 ≤ (i487 : Int) ∧ (i487 : Int) < (r427.length : Int)) ∧ (if r413.getD i487 default ≠ r427.getD i487 default then K false else next490 ()))) (fun (s488 : Unit) => f_spec_DrawInverseNumber c (fun r517 => f_impl_InverseNumber r517 (fun r522 r523 => f_spec_InverseNumber r517 (fun r528 r529 => (if r523 ≠ r529 then K false else (if r522 ≠ r528 then K false else (if r523 ≠ 0 then K true else K (decide (Int.tmod (IntKind.i64.wrap (r517 * r522)) 10007 = 1))))))))) r413.length 0 ()))))) := by
  refine m_drawMonos hc fun ds n hl => ?_
  obtain ⟨F, k, s1, s2, s3⟩ := mons_same ds n
  refine s2 _ (s1 _ (neq_no (neq_no ?_)))
  refine forN_inv (fun _ _ => True) F.length ?_ ?_ _ _ _ (by omega) trivial
  · intro i s next hi _ hn
    exact ⟨⟨by omega, by omega⟩, neq_no (hn _ trivial)⟩
  · intro s _
    refine m_drawInverse hc fun x => ?_
    obtain ⟨r, k, t1, t2, t3⟩ := inv_same x
    refine t1 _ (t2 _ (neq_no (neq_no ?_)))
    by_cases q : k = 0
    · refine if_neg' (by simpa using q) ?_
      rw [t3 q]; exact hT
    · exact if_pos' q hT
theorem mulRes_ok {ds : List Int} {a b : A8} (h : (mulRes ds a b).2.2 = 0) : OkDeg ds ∧ OkMono ds a ∧ OkMono ds b ∧ mulRes ds a b = ((joined ds a b).1, (joined ds a b).2, 0) ∧ ((joined ds a b).2 ≠ 0 → OkMono ds (joined ds a b).1) := by
  unfold mulRes at h ⊢
  split at h
  · rename_i h1
    rw [if_pos h1]
    split at h
    · cases h
    · rename_i h2
      rw [if_neg h2]
      exact ⟨h1.1, h1.2.1, h1.2.2, rfl, fun z => Decidable.byContradiction fun w => h2 ⟨z, w⟩⟩
  · cases h
theorem joined_turn {ds : List Int} {a b : A8} : (joined ds b a).1 = (joined ds a b).1 ∧ ((joined ds a b).2 = 0 ↔ (joined ds b a).2 = 0) := by
  unfold joined
  by_cases q : Clash ds a b
  · rw [if_pos q, if_pos (clash_comm.1 q)]; exact ⟨rfl, Iff.rfl⟩
  · rw [if_neg q, if_neg (fun z => q (clash_comm.1 z))]
    refine ⟨add_comm8 b a, ?_⟩
    rcases sg_pm (totF ds a b ds.length 0) with e | e <;> rcases sg_pm (totF ds b a ds.length 0) with e2 | e2 <;> simp [e, e2]
theorem zero_mono (ds : List Int) : OkMono ds A8.zero := fun i hi => ⟨fun _ => by rw [A8.get_zero]; omega, fun _ => A8.get_zero i⟩
theorem m_degMono {ds : List Int} {m : A8} {K : Int → Int → Prop} (hd : OkDeg ds) (hm : OkMono ds m) (fm : FitA .u8 m) (h : K (wtU ds m ds.length) 0) : f_impl_DegreeOfMonomial ds m K := by
  unfold f_impl_DegreeOfMonomial
  have pm : ∀ i, i < 8 → 0 ≤ m.get i ∧ m.get i ≤ 255 := fun i hi => fit_u8 (fitA_get fm hi)
  refine m_IsMonomial (fun i hi => (pm i hi).1) ?_
  rw [decide_eq_true ⟨hd, hm⟩]
  exact if_neg' (by simp) (m_powerOf fm (m_degree hd pm h))
theorem m_specIsMono {ds : List Int} {a : A8} {K : Bool → Prop} (pa : ∀ i, i < 8 → 0 ≤ a.get i) (h : K (decide (OkDeg ds ∧ OkMono ds a))) : f_spec_IsMonomial ds a K := by
  unfold f_spec_IsMonomial
  refine m_l01Degrees ?_
  by_cases hd : OkDeg ds
  · rw [decide_eq_true hd]
    refine if_pos' rfl (m_l01Mono pa hd.1 ?_)
    simpa [hd] using h
  · rw [decide_eq_false hd]
    refine if_neg' (by simp) ?_
    simpa [hd] using h
theorem p_Monomials (a0 : List Int) (g0 : ∀ x, x ∈ a0 → Fit .u8 x) : f_laws_FnMonomials a0 (fun r => r = true) := by
  unfold f_laws_FnMonomials f_laws_big
  by_cases hl : (a0.length : Int) > 4096
  · rw [decide_eq_true hl]; exact if_pos' rfl rfl
  · rw [decide_eq_false hl]
    have hc : OkCode a0 := ⟨by omega, fun i hi => fit_u8 (g0 _ (by rw [List.getD, List.getElem?_eq_getElem hi]; exact List.getElem_mem hi))⟩
    refine if_neg' (by simp) (m_drawMulti hc fun ds a b hds fa fb => ?_)
    have pa : ∀ i, i < 8 → 0 ≤ a.get i := fun i hi => (fit_u8 (fitA_get fa hi)).1
    have pb : ∀ i, i < 8 → 0 ≤ b.get i := fun i hi => (fit_u8 (fitA_get fb hi)).1
    refine m_implMul fa fb (m_specMul pa pb (neq_no (neq_no (neq_no ?_))))
    refine m_IsMonomial pa (m_specIsMono pa (neq_no (m_AreDegrees ?_)))
    unfold f_spec_AreDegrees
    refine m_l01Degrees (neq_no ?_)
    by_cases h0 : (mulRes ds a b).2.2 = 0
    · refine if_pos' h0 ?_
      obtain ⟨hd, ha, hb, e1, e2⟩ := mulRes_ok h0
      obtain ⟨j1, j2⟩ := joined_turn (ds := ds) (a := a) (b := b)
      have okp : OkMono ds (joined ds a b).1 := by
        by_cases q : (joined ds a b).2 = 0
        · unfold joined at q ⊢
          by_cases cl : Clash ds a b
          · rw [if_pos cl]; exact zero_mono ds
          · rw [if_neg cl] at q; rcases sg_pm (totF ds a b ds.length 0) with e | e <;> (rw [e] at q; cases q)
        · exact e2 q
      have pp := joined_pos (ds := ds) pa pb
      have fp : FitA .u8 (joined ds a b).1 := fun x hx => by
        obtain ⟨i, hi, rfl⟩ := A8.mem_list.1 hx
        refine fit_byte ⟨pp i hi, ?_⟩
        by_cases q : i < ds.length
        · have := ((okp i hi).1 q).1; omega
        · have := (okp i hi).2 (by omega); omega
      have e3 : mulRes ds b a = ((joined ds b a).1, (joined ds b a).2, 0) := by
        unfold mulRes
        rw [if_pos ⟨hd, hb, ha⟩, if_neg]
        rintro ⟨z1, z2⟩
        rw [j1] at z2; exact z2 okp
      refine m_implMul fb fa ?_
      rw [e1, e3]
      dsimp only
      refine m_degMono hd ha fa (m_degMono hd hb fb (m_degMono hd okp fp ?_))
      refine neq_no (neq_no (neq_no (neq_no ?_)))
      rw [j1]
      refine neq_no ?_
      rw [show decide ((joined ds a b).2 = 0) = decide ((joined ds b a).2 = 0) from by simp only [j2]]
      refine neq_no ?_
      by_cases hs : (joined ds a b).2 = 0
      · exact if_neg' (by simpa using hs) (m_rest (K := fun r => r = true) hc rfl)
      · refine if_pos' hs ?_
        have ncl : ¬ Clash ds a b := fun cl => hs (by unfold joined; rw [if_pos cl])
        have b1 := wtU_bd hd (fun i hi => fit_u8 (fitA_get fa hi)) ds.length (Nat.le_refl _)
        have b2 := wtU_bd hd (fun i hi => fit_u8 (fitA_get fb hi)) ds.length (Nat.le_refl _)
        have h8 := hd.1
        have ej : joined ds a b = (a.add b, sg (totF ds a b ds.length 0)) := by unfold joined; rw [if_neg ncl]
        have ej2 : joined ds b a = (b.add a, sg (totF ds b a ds.length 0)) := by unfold joined; rw [if_neg (fun z => ncl (clash_comm.1 z))]
        have tn := turned hd ha hb pa pb ncl
        rw [ej, ej2]
        dsimp only
        rw [wt_add]
        generalize wtU ds a ds.length = x at *
        generalize wtU ds b ds.length = y at *
        rw [i64_in (x + y) (by omega)]
        refine neq_no (if_neg' ?_ (m_rest (K := fun r => r = true) hc rfl))
        have hxy0 : 0 ≤ x * y := Int.mul_nonneg b1.1 b2.1
        have hxy : x * y ≤ 24480 * 24480 := Int.mul_le_mul (by omega) (by omega) b2.1 (by omega)
        rw [i64_in (x * y) (by omega), Int.tmod_eq_emod_of_nonneg hxy0]
        intro z
        by_cases q : sg (totF ds a b ds.length 0) = sg (totF ds b a ds.length 0)
        · have := tn.1 q
          rw [decide_eq_true q] at z
          have := of_decide_eq_true z.symm
          omega
        · have hne : ¬ (x * y) % 2 = 0 := fun w => q (tn.2 w)
          rw [decide_eq_false q] at z
          exact of_decide_eq_false z.symm hne
    · exact if_neg' h0 (m_rest (K := fun r => r = true) hc rfl)
end Go.Proofs.Ytaagfepgbofmlaa
