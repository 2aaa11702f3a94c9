/- Plain law of row 23. -/
import Derived.Test.YtaagfepgbofmlaaVi1
set_option linter.unusedVariables false
set_option linter.unusedSimpArgs false
namespace Go.Proofs.Ytaagfepgbofmlaa
open Go Vc
def bools (p : Int) (l : List A8) : List Bool := l.map fun m => decide (wdU m 8 ≥ p)
theorem bools_step {p : Int} {l : List A8} {i : Nat} (h : i < l.length) : bools p (l.take (i + 1)) = bools p (l.take i) ++ [decide (wdU (l.getD i default) 8 ≥ p)] := by
  rw [take_getD h, bools, List.map_append]; rfl
theorem bools_len (p : Int) (l : List A8) : (bools p l).length = l.length := List.length_map _
theorem bools_count (p : Int) : ∀ l : List A8, ((bools p l).filter id).length = (atLeast p l).length
  | [] => rfl
  | m :: l => by
    have ih := bools_count p l
    unfold bools atLeast at ih ⊢
    rw [List.map_cons]
    by_cases q : p ≤ wdU m 8
    · rw [List.filter_cons_of_pos (by simpa using q), List.filter_cons_of_pos (by simpa using q), List.length_cons, List.length_cons, ih]
    · rw [List.filter_cons_of_neg (by simpa using q), List.filter_cons_of_neg (by simpa using q), ih]
theorem m_bools {r : List A8} {p : Int} (hl : r.length ≤ 120) (hp : ∀ i, i < r.length → ∀ j, j < 8 → 0 ≤ (r.getD i default).get j ∧ (r.getD i default).get j ≤ 255) {E : List Bool → Prop} (h : E (bools p r)) :
    forN (fun i (s : List Bool) next => f_impl_power_length (r.getD i default) (fun r1 => (Room (s.length + 1) 1 ∧ next (s ++ [decide (r1 ≥ p)])))) E r.length 0 [] := by
  refine forN_inv (fun i s => s = bools p (r.take i)) r.length ?_ ?_ _ _ _ (by omega) rfl
  · intro i s next hi hs hn
    refine m_length (hp i hi) ⟨?_, hn _ ?_⟩
    · rw [hs, bools_len, List.length_take]; unfold Room; omega
    · rw [hs, bools_step hi]
  · intro s hs; rw [hs, List.take_length]; exact h
theorem m_count {l : List Bool} (hl : l.length ≤ 1000) {K : Int → Prop} (h : K (((l.filter id).length : Nat) : Int)) : f_impl_count l K := by
  unfold f_impl_count
  refine forN_inv (fun i (s : Int) => s = ((((l.take i).filter id).length : Nat) : Int)) l.length ?_ ?_ _ _ _ (by omega) rfl
  · intro i s next hi hs hn
    have hb : ((l.take i).filter id).length ≤ i := Nat.le_trans (List.length_filter_le _ _) (by rw [List.length_take]; omega)
    by_cases q : l.getD i default = true
    · refine if_pos' q ?_
      rw [i64_in _ (by omega)]
      refine hn _ ?_
      rw [take_getD hi, List.filter_append, q, hs]; simp
    · refine if_neg' q (hn _ ?_)
      have q' : l.getD i default = false := by simpa using q
      rw [take_getD hi, List.filter_append, q', hs]; simp
  · intro s hs; rw [hs, List.take_length]; exact h
theorem m_implDim {a : Alg} {p n : Int} {K : Int → Int → Prop} (hf : FitAlg a) (h1 : ¬ OkAlg a → K 0 1) (h2 : OkAlg a → ¬ Minimal a → K 0 5) (h3 : OkAlg a → Minimal a → ¬ ((0 ≤ p ∧ p ≤ 20) ∧ (0 ≤ n ∧ n ≤ 20)) → K 0 2)
    (h4 : OkAlg a → Minimal a → ((0 ≤ p ∧ p ≤ 20) ∧ (0 ≤ n ∧ n ≤ 20)) → ¬ AllFit a.degrees n → K 0 3) (h5 : OkAlg a → Minimal a → ((0 ≤ p ∧ p ≤ 20) ∧ (0 ≤ n ∧ n ≤ 20)) → AllFit a.degrees n → K (((atLeast p (mons a.degrees n)).length : Nat) : Int) 0) : f_impl_DimensionOfF a p n K := by
  unfold f_impl_DimensionOfF f_impl_isPage f_impl_isAsked
  refine m_within ?_
  by_cases hp : 0 ≤ p ∧ p ≤ 20
  · refine jn_pos (decide_eq_true hp) (m_within (m_pageCode hf (fun no => ?_) (fun ok no => ?_) (fun ok mi => ?_)))
    · exact if_neg' (by decide) (if_pos' (by decide) (h1 no))
    · exact if_neg' (by decide) (if_pos' (by decide) (h2 ok no))
    · by_cases hn : 0 ≤ n ∧ n ≤ 20
      · have e : (if decide (0 ≤ n ∧ n ≤ 20) = true then (0 : Int) else 2) = 0 := by rw [decide_eq_true hn]; rfl
        rw [e]
        refine if_pos' rfl (forN_one (m_around ok.deg hn (fun no => ?_) (fun af => ?_)))
        · exact if_pos' (by decide) (h4 ok mi ⟨hp, hn⟩ no)
        · have hl : (mons a.degrees n).length ≤ 120 := af.2.1
          refine if_neg' (by decide) (m_mons120 ok.deg (by omega) (fun _ => ?_) (fun no => absurd af.2.1 no))
          refine m_places (m_bools hl (fun i hi => small_get ok.deg hi) (m_count (by rw [bools_len]; omega) ?_))
          rw [bools_count]
          exact h5 ok mi ⟨hp, hn⟩ af
      · have e : (if decide (0 ≤ n ∧ n ≤ 20) = true then (0 : Int) else 2) = 2 := by rw [decide_eq_false hn]; rfl
        rw [e]
        exact if_neg' (by decide) (if_pos' (by decide) (h3 ok mi (fun z => hn z.2)))
  · refine jn_neg (by simpa using hp) (m_pageCode hf (fun no => ?_) (fun ok no => ?_) (fun ok mi => ?_))
    · exact if_neg' (by decide) (if_pos' (by decide) (h1 no))
    · exact if_neg' (by decide) (if_pos' (by decide) (h2 ok no))
    · have e : (if false = true then (0 : Int) else 2) = 2 := rfl
      rw [e]
      exact if_neg' (by decide) (if_pos' (by decide) (h3 ok mi (fun z => hp z.1)))
theorem m_specDim {a : Alg} {p n : Int} {K : Int → Int → Prop} (hf : FitAlg a) (h1 : ¬ OkAlg a → K 0 1) (h2 : OkAlg a → ¬ Minimal a → K 0 5) (h3 : OkAlg a → Minimal a → ¬ ((0 ≤ p ∧ p ≤ 20) ∧ (0 ≤ n ∧ n ≤ 20)) → K 0 2)
    (h4 : OkAlg a → Minimal a → ((0 ≤ p ∧ p ≤ 20) ∧ (0 ≤ n ∧ n ≤ 20)) → ¬ AllFit a.degrees n → K 0 3) (h5 : OkAlg a → Minimal a → ((0 ≤ p ∧ p ≤ 20) ∧ (0 ≤ n ∧ n ≤ 20)) → AllFit a.degrees n → K (((atLeast p (mons a.degrees n)).length : Nat) : Int) 0) : f_spec_DimensionOfF a p n K := by
  unfold f_spec_DimensionOfF
  refine m_l10Minimal hf (fun no => ?_) (fun ok no => ?_) (fun ok mi => ?_)
  · exact if_neg' (by decide) (if_pos' (by decide) (h1 no))
  · exact if_neg' (by decide) (if_pos' (by decide) (h2 ok no))
  · refine if_pos' rfl (m_l01In ?_)
    by_cases hp : 0 ≤ p ∧ p ≤ 20
    · refine if_neg' (by simpa using hp) (m_l03Code hf ok (fun no => ?_) (fun hn no => ?_) (fun hn af => ?_))
      · exact if_pos' (by decide) (h3 ok mi (fun z => no z.2))
      · exact if_pos' (by decide) (h4 ok mi ⟨hp, hn⟩ no)
      · exact if_neg' (by decide) (m_l10Of ok.deg hn af.2.1 (h5 ok mi ⟨hp, hn⟩ af))
    · exact if_pos' (by simpa using hp) (if_neg' (by decide) (if_pos' (by decide) (h3 ok mi (fun z => hp z.1))))
theorem p_DimensionOfF (a0 : Alg) (a1 a2 : Int) (hg : GoodAlg a0) (g1 : (Lit.int .i64 a1).wf = true) (g2 : (Lit.int .i64 a2).wf = true) (hb : LenAlg a0) : f_laws_FnExactDimensionOfF a0 a1 a2 (fun r => r = true) := by
  unfold f_laws_FnExactDimensionOfF
  refine m_szAlgebra hb (fun r hr d1 d2 d3 => ?_) (fun r hr => by rw [if_pos hr])
  rw [if_neg (by omega)]
  have hf := hg.fit d3
  obtain ⟨x, y, s1, s2⟩ : ∃ x y, (∀ K : Int → Int → Prop, K x y → f_spec_DimensionOfF a0 a1 a2 K) ∧ (∀ K : Int → Int → Prop, K x y → f_impl_DimensionOfF a0 a1 a2 K) := by
    by_cases ok : OkAlg a0
    · by_cases mi : Minimal a0
      · by_cases hn : (0 ≤ a1 ∧ a1 ≤ 20) ∧ (0 ≤ a2 ∧ a2 ≤ 20)
        · by_cases af : AllFit a0.degrees a2
          · exact ⟨_, 0, fun K h => m_specDim hf (fun z => absurd ok z) (fun _ z => absurd mi z) (fun _ _ z => absurd hn z) (fun _ _ _ z => absurd af z) (fun _ _ _ _ => h), fun K h => m_implDim hf (fun z => absurd ok z) (fun _ z => absurd mi z) (fun _ _ z => absurd hn z) (fun _ _ _ z => absurd af z) (fun _ _ _ _ => h)⟩
          · exact ⟨0, 3, fun K h => m_specDim hf (fun z => absurd ok z) (fun _ z => absurd mi z) (fun _ _ z => absurd hn z) (fun _ _ _ _ => h) (fun _ _ _ z => absurd z af), fun K h => m_implDim hf (fun z => absurd ok z) (fun _ z => absurd mi z) (fun _ _ z => absurd hn z) (fun _ _ _ _ => h) (fun _ _ _ z => absurd z af)⟩
        · exact ⟨0, 2, fun K h => m_specDim hf (fun z => absurd ok z) (fun _ z => absurd mi z) (fun _ _ _ => h) (fun _ _ z => absurd z hn) (fun _ _ z => absurd z hn), fun K h => m_implDim hf (fun z => absurd ok z) (fun _ z => absurd mi z) (fun _ _ _ => h) (fun _ _ z => absurd z hn) (fun _ _ z => absurd z hn)⟩
      · exact ⟨0, 5, fun K h => m_specDim hf (fun z => absurd ok z) (fun _ _ => h) (fun _ z => absurd z mi) (fun _ z => absurd z mi) (fun _ z => absurd z mi), fun K h => m_implDim hf (fun z => absurd ok z) (fun _ _ => h) (fun _ z => absurd z mi) (fun _ z => absurd z mi) (fun _ z => absurd z mi)⟩
    · exact ⟨0, 1, fun K h => m_specDim hf (fun _ => h) (fun z => absurd z ok) (fun z => absurd z ok) (fun z => absurd z ok) (fun z => absurd z ok), fun K h => m_implDim hf (fun _ => h) (fun z => absurd z ok) (fun z => absurd z ok) (fun z => absurd z ok) (fun z => absurd z ok)⟩
  refine m_toAlgebra d1 d2 d3 (s1 _ (m_toAlgebra d1 d2 d3 (s2 _ (ne_no (ne_no (m_toAlgebra d1 d2 d3 (same_Algebra (not_no rfl))))))))
end Go.Proofs.Ytaagfepgbofmlaa
