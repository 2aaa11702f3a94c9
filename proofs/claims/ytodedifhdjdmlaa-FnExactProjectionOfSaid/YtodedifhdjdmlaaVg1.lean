/- Plain laws: two algebras side by side. -/
import Derived.Test.YtodedifhdjdmlaaVg0
set_option linter.unusedVariables false
set_option linter.unusedSimpArgs false
namespace Go.Proofs.Ytodedifhdjdmlaa
open Go Vc
theorem m_first3 {a b c : Int} {K : Int → Prop} (h : K (if a ≠ 0 then a else if b ≠ 0 then b else c)) : f_impl_first [a, b, c] K := by
  simp only [f_impl_first, forN, List.length_cons, List.length_nil, List.getD_cons_zero, List.getD_cons_succ]
  split
  · rename_i q; rwa [if_pos q] at h
  · rename_i q
    rw [if_neg q] at h
    split
    · rename_i q2; rwa [if_pos q2] at h
    · rename_i q2
      rw [if_neg q2] at h
      split
      · exact h
      · rename_i q3; simp only [ne_eq, Decidable.not_not] at q3; rw [← q3]; exact h
def PairOk (a b : Alg) : Prop := OkAlg a ∧ OkAlg b ∧ a.degrees.length + b.degrees.length ≤ 8
open Classical in
noncomputable def pairC (a b : Alg) : Int := if OkAlg a ∧ OkAlg b then 3 else 1
theorem m_l04Pair {a b : Alg} {K : Int → Prop} (hf : FitAlg a) (hg : FitAlg b) (h0 : PairOk a b → K 0) (h1 : ¬ PairOk a b → pairC a b ≠ 0 → K (pairC a b)) : f_spec_l04Pair a b K := by
  unfold f_spec_l04Pair
  have hc : pairC a b ≠ 0 := by unfold pairC; split <;> omega
  refine m_l02Is hf (fun ok => ?_) (fun no => ?_)
  · rw [if_neg (by simp)]
    refine m_l02Is hg (fun ok2 => ?_) (fun no => ?_)
    · rw [if_neg (by simp)]
      have a8 := ok.deg.1
      have b8 := ok2.deg.1
      rw [i64_in _ (by omega)]
      split
      · rename_i q
        have e : pairC a b = 3 := by unfold pairC; rw [if_pos ⟨ok, ok2⟩]
        have := h1 (fun z => by have := z.2.2; omega) hc
        rwa [e] at this
      · rename_i q
        exact h0 ⟨ok, ok2, by omega⟩
    · rw [if_pos (by simp)]
      have e : pairC a b = 1 := by unfold pairC; rw [if_neg (fun z => no z.2)]
      have := h1 (fun z => no z.2.1) hc
      rwa [e] at this
  · rw [if_pos (by simp)]
    have e : pairC a b = 1 := by unfold pairC; rw [if_neg (fun z => no z.1)]
    have := h1 (fun z => no z.1) hc
    rwa [e] at this
theorem m_pairCode {a b : Alg} {K : Int → Prop} (hf : FitAlg a) (hg : FitAlg b) (h0 : PairOk a b → K 0) (h1 : ¬ PairOk a b → pairC a b ≠ 0 → K (pairC a b)) : f_impl_pairCode a b K := by
  unfold f_impl_pairCode
  have hc : pairC a b ≠ 0 := by unfold pairC; split <;> omega
  refine m_algebraCode0 hf (fun ok => ?_) (fun no => ?_)
  · refine m_algebraCode0 hg (fun ok2 => ?_) (fun no => ?_)
    · have a8 := ok.deg.1
      have b8 := ok2.deg.1
      rw [i64_in _ (by omega)]
      refine m_when (m_first3 ?_)
      rw [if_neg (by omega), if_neg (by omega)]
      split
      · rename_i q
        simp only [decide_eq_true_eq] at q
        have e : pairC a b = 3 := by unfold pairC; rw [if_pos ⟨ok, ok2⟩]
        have := h1 (fun z => by have := z.2.2; omega) hc
        rwa [e] at this
      · rename_i q
        simp only [decide_eq_true_eq] at q
        exact h0 ⟨ok, ok2, by omega⟩
    · refine m_when (m_first3 ?_)
      rw [if_neg (by omega), if_pos (by omega)]
      have e : pairC a b = 1 := by unfold pairC; rw [if_neg (fun z => no z.2)]
      have := h1 (fun z => no z.2.1) hc
      rwa [e] at this
  · have e : pairC a b = 1 := by unfold pairC; rw [if_neg (fun z => no z.1)]
    have hk := h1 (fun z => no z.1) hc
    rw [e] at hk
    refine m_algebraCode0 hg (fun _ => ?_) (fun _ => ?_) <;> (refine m_when (m_first3 ?_); rw [if_pos (by omega)]; exact hk)
end Go.Proofs.Ytodedifhdjdmlaa
