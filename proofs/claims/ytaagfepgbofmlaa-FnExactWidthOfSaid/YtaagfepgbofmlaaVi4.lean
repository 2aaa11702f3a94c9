/- Plain law of row 22. -/
import Derived.Test.YtaagfepgbofmlaaVi1
set_option linter.unusedVariables false
set_option linter.unusedSimpArgs false
namespace Go.Proofs.Ytaagfepgbofmlaa
open Go Vc
def wfold (l : List A8) : Int := l.foldl (fun s m => if s < wdU m 8 then wdU m 8 else s) 0
theorem wfold_step {l : List A8} {i : Nat} (h : i < l.length) : wfold (l.take (i + 1)) = if wfold (l.take i) < wdU (l.getD i default) 8 then wdU (l.getD i default) 8 else wfold (l.take i) := by
  rw [take_getD h, wfold, List.foldl_append]; rfl
theorem m_wloopI {r : List A8} (hp : ∀ i, i < r.length → ∀ j, j < 8 → 0 ≤ (r.getD i default).get j ∧ (r.getD i default).get j ≤ 255) {E : Int → Prop} (h : E (wfold r)) :
    forN (fun i (s : Int) next => f_impl_power_length (r.getD i default) (fun r1 => next (if s < r1 then r1 else s))) E r.length 0 0 := by
  refine forN_inv (fun i s => s = wfold (r.take i)) r.length ?_ ?_ _ _ _ (by omega) rfl
  · intro i s next hi hs hn
    refine m_length (hp i hi) (hn _ ?_)
    rw [hs, wfold_step hi]
  · intro s hs; rw [hs, List.take_length]; exact h
theorem m_wloopS {r : List A8} (hp : ∀ i, i < r.length → ∀ j, j < 8 → 0 ≤ (r.getD i default).get j ∧ (r.getD i default).get j ≤ 255) {E : Int → Prop} (h : E (wfold r)) :
    forN (fun i (s : Int) next => f_spec_l02Word (r.getD i default) (fun r1 => next (if s < r1 then r1 else s))) E r.length 0 0 := by
  refine forN_inv (fun i s => s = wfold (r.take i)) r.length ?_ ?_ _ _ _ (by omega) rfl
  · intro i s next hi hs hn
    refine m_l02Word (hp i hi) (hn _ ?_)
    rw [hs, wfold_step hi]
  · intro s hs; rw [hs, List.take_length]; exact h
theorem m_implWidth {a : Alg} {n : Int} {K : Int → Int → Prop} (hf : FitAlg a) (h1 : ¬ OkAlg a → K 0 1) (h2 : OkAlg a → ¬ Minimal a → K 0 5) (h3 : OkAlg a → Minimal a → ¬ (0 ≤ n ∧ n ≤ 20) → K 0 2)
    (h4 : OkAlg a → Minimal a → (0 ≤ n ∧ n ≤ 20) → ¬ AllFit a.degrees n → K 0 3) (h5 : OkAlg a → Minimal a → (0 ≤ n ∧ n ≤ 20) → AllFit a.degrees n → K (wfold (mons a.degrees n)) 0) : f_impl_WidthOf a n K := by
  unfold f_impl_WidthOf f_impl_isAsked
  refine m_within (m_pageCode hf (fun no => ?_) (fun ok no => ?_) (fun ok mi => ?_))
  · exact if_neg' (by decide) (if_pos' (by decide) (h1 no))
  · exact if_neg' (by decide) (if_pos' (by decide) (h2 ok no))
  · by_cases hn : 0 ≤ n ∧ n ≤ 20
    · rw [if_pos (decide_eq_true hn)]
      refine if_pos' rfl (forN_one (m_around ok.deg hn (fun no => ?_) (fun af => ?_)))
      · exact if_pos' (by decide) (h4 ok mi hn no)
      · refine if_neg' (by decide) (m_mons120 ok.deg (by omega) (fun _ => ?_) (fun no => absurd af.2.1 no))
        refine m_places (m_wloopI (fun i hi => small_get ok.deg hi) (h5 ok mi hn af))
    · have e : (if decide (0 ≤ n ∧ n ≤ 20) = true then (0 : Int) else 2) = 2 := by rw [decide_eq_false hn]; rfl
      rw [e]
      exact if_neg' (by decide) (if_pos' (by decide) (h3 ok mi hn))
theorem m_specWidth {a : Alg} {n : Int} {K : Int → Int → Prop} (hf : FitAlg a) (h1 : ¬ OkAlg a → K 0 1) (h2 : OkAlg a → ¬ Minimal a → K 0 5) (h3 : OkAlg a → Minimal a → ¬ (0 ≤ n ∧ n ≤ 20) → K 0 2)
    (h4 : OkAlg a → Minimal a → (0 ≤ n ∧ n ≤ 20) → ¬ AllFit a.degrees n → K 0 3) (h5 : OkAlg a → Minimal a → (0 ≤ n ∧ n ≤ 20) → AllFit a.degrees n → K (wfold (mons a.degrees n)) 0) : f_spec_WidthOf a n K := by
  unfold f_spec_WidthOf f_spec_l10Code
  refine m_l10Minimal hf (fun no => ?_) (fun ok no => ?_) (fun ok mi => ?_)
  · exact if_pos' (by decide) (if_pos' (by decide) (h1 no))
  · exact if_pos' (by decide) (if_pos' (by decide) (h2 ok no))
  · refine if_neg' (by decide) (m_l03Code hf ok (fun no => ?_) (fun hn no => ?_) (fun hn af => ?_))
    · exact if_pos' (by decide) (h3 ok mi no)
    · exact if_pos' (by decide) (h4 ok mi hn no)
    · refine if_neg' (by decide) ?_
      unfold f_spec_l10Width
      refine m_l10Of ok.deg hn af.2.1 ?_
      rw [atLeast_zero ok.deg]
      exact m_wloopS (fun i hi => small_get ok.deg hi) (h5 ok mi hn af)
theorem p_WidthOf (a0 : Alg) (a1 : Int) (hg : GoodAlg a0) (g1 : (Lit.int .i64 a1).wf = true) (hb : LenAlg a0) : f_laws_FnExactWidthOf a0 a1 (fun r => r = true) := by
  unfold f_laws_FnExactWidthOf
  refine m_szAlgebra hb (fun r hr d1 d2 d3 => ?_) (fun r hr => by rw [if_pos hr])
  rw [if_neg (by omega)]
  have hf := hg.fit d3
  obtain ⟨x, y, s1, s2⟩ : ∃ x y, (∀ K : Int → Int → Prop, K x y → f_spec_WidthOf a0 a1 K) ∧ (∀ K : Int → Int → Prop, K x y → f_impl_WidthOf a0 a1 K) := by
    by_cases ok : OkAlg a0
    · by_cases mi : Minimal a0
      · by_cases hn : 0 ≤ a1 ∧ a1 ≤ 20
        · by_cases af : AllFit a0.degrees a1
          · exact ⟨_, 0, fun K h => m_specWidth hf (fun z => absurd ok z) (fun _ z => absurd mi z) (fun _ _ z => absurd hn z) (fun _ _ _ z => absurd af z) (fun _ _ _ _ => h), fun K h => m_implWidth hf (fun z => absurd ok z) (fun _ z => absurd mi z) (fun _ _ z => absurd hn z) (fun _ _ _ z => absurd af z) (fun _ _ _ _ => h)⟩
          · exact ⟨0, 3, fun K h => m_specWidth hf (fun z => absurd ok z) (fun _ z => absurd mi z) (fun _ _ z => absurd hn z) (fun _ _ _ _ => h) (fun _ _ _ z => absurd z af), fun K h => m_implWidth hf (fun z => absurd ok z) (fun _ z => absurd mi z) (fun _ _ z => absurd hn z) (fun _ _ _ _ => h) (fun _ _ _ z => absurd z af)⟩
        · exact ⟨0, 2, fun K h => m_specWidth hf (fun z => absurd ok z) (fun _ z => absurd mi z) (fun _ _ _ => h) (fun _ _ z => absurd z hn) (fun _ _ z => absurd z hn), fun K h => m_implWidth hf (fun z => absurd ok z) (fun _ z => absurd mi z) (fun _ _ _ => h) (fun _ _ z => absurd z hn) (fun _ _ z => absurd z hn)⟩
      · exact ⟨0, 5, fun K h => m_specWidth hf (fun z => absurd ok z) (fun _ _ => h) (fun _ z => absurd z mi) (fun _ z => absurd z mi) (fun _ z => absurd z mi), fun K h => m_implWidth hf (fun z => absurd ok z) (fun _ _ => h) (fun _ z => absurd z mi) (fun _ z => absurd z mi) (fun _ z => absurd z mi)⟩
    · exact ⟨0, 1, fun K h => m_specWidth hf (fun _ => h) (fun z => absurd z ok) (fun z => absurd z ok) (fun z => absurd z ok) (fun z => absurd z ok), fun K h => m_implWidth hf (fun _ => h) (fun z => absurd z ok) (fun z => absurd z ok) (fun z => absurd z ok) (fun z => absurd z ok)⟩
  refine m_toAlgebra d1 d2 d3 (s1 _ (m_toAlgebra d1 d2 d3 (s2 _ (ne_no (ne_no (m_toAlgebra d1 d2 d3 (same_Algebra (not_no rfl))))))))
end Go.Proofs.Ytaagfepgbofmlaa
