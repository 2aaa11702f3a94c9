/- Plain law of row 30. -/
import Derived.Test.YtodedifhdjdmlaaVg1
import Derived.Test.YtodedifhdjdmlaaGL4
set_option linter.unusedVariables false
set_option linter.unusedSimpArgs false
namespace Go.Proofs.Ytodedifhdjdmlaa
open Go Vc
def incF (a b : Alg) (s : Bool) : List Vc.Form := if s = true then genO a.degrees.length b.degrees.length else genO 0 a.degrees.length
theorem loop_gen {o n : Nat} {K : List Vc.Form → Prop} {f : Nat → Int} (hf : ∀ i, i < n → f i = (o + i : Nat)) (h8 : o + n ≤ 8) (h : K (genO o n)) :
    forN (fun i86 (s87 : (List Vc.Form)) next91 => f_spec_l04Generator (f i86) (fun r99 => (Room (s87.length + 1) 24 ∧ next91 (s87 ++ [r99])))) K n 0 [] := by
  refine forN_inv (fun j (s : List Vc.Form) => s = genO o j) n ?_ ?_ _ _ _ (by omega) (by rfl)
  · intro j s next hj hs hn
    rw [hf j (by omega)]
    refine m_l04Generator (by omega) ⟨by rw [hs, genO_len]; unfold Room; omega, hn _ ?_⟩
    rw [hs, genO, genO, genO_succ, show ((o + j : Nat) : Int).toNat = o + j by omega]
  · intro s hs
    rw [hs]; exact h
theorem m_specInc {a b : Alg} {s : Bool} {K : List Vc.Form → Int → Prop} (hf : FitAlg a) (hg : FitAlg b) (h0 : PairOk a b → K (incF a b s) 0) (h1 : ¬ PairOk a b → K [] (pairC a b)) : f_spec_InclusionOf a b s K := by
  unfold f_spec_InclusionOf
  refine m_l04Pair hf hg (fun ok => ?_) (fun no hc => ?_)
  · rw [if_neg (by simp)]
    have h := h0 ok
    obtain ⟨oa, ob, h8⟩ := ok
    unfold incF at h
    split
    · rename_i q
      rw [if_pos q] at h
      exact loop_gen (f := fun i => IntKind.i64.wrap ((a.degrees.length : Int) + (i : Int))) (fun i hi => by rw [i64_in _ (by omega)]; omega) h8 h
    · rename_i q
      rw [if_neg q] at h
      exact loop_gen (f := fun i => IntKind.i64.wrap (0 + (i : Int))) (fun i hi => by rw [i64_in _ (by omega)]; omega) (by omega) h
  · rw [if_pos hc]; exact h1 no
theorem m_implInc {a b : Alg} {s : Bool} {K : List Vc.Form → Int → Prop} (hf : FitAlg a) (hg : FitAlg b) (h0 : PairOk a b → K (incF a b s) 0) (h1 : ¬ PairOk a b → K [] (pairC a b)) : f_impl_InclusionOf a b s K := by
  unfold f_impl_InclusionOf
  refine m_pairCode hf hg (fun ok => ?_) (fun no hc => ?_)
  · rw [if_neg (by simp)]
    have h := h0 ok
    obtain ⟨oa, ob, h8⟩ := ok
    unfold incF at h
    split
    · rename_i q
      rw [if_pos q] at h
      exact m_generators (by omega) (by omega) (by simpa using h)
    · rename_i q
      rw [if_neg q] at h
      exact m_generators (by omega) (by omega) (by simpa using h)
  · rw [if_pos hc]; exact h1 no
theorem pure_InclusionOf (a b : Alg) (s : Bool) (hg : GoodAlg a) (hh : GoodAlg b) (hb : LenAlg a) (hc : LenAlg b) : f_laws_FnExactInclusionOf a b s (fun r => r = true) := by
  unfold f_laws_FnExactInclusionOf
  refine m_szAlgebraG (by omega) hb (fun r hr hr2 d1 d2 d3 => ?_) (fun r hr => by rw [if_pos hr])
  rw [if_neg (by omega)]
  refine m_szAlgebraG (by omega) hc (fun t ht ht2 e1 e2 e3 => ?_) (fun r hr => by rw [if_pos hr])
  rw [if_neg (by omega)]
  have hf := hg.fit d3
  have hf' := hh.fit e3
  refine m_toAlgebra d1 d2 d3 (m_toAlgebra e1 e2 e3 ?_)
  obtain ⟨F, c, hsp, him, hsm⟩ : ∃ F c, (∀ K : List Vc.Form → Int → Prop, K F c → f_spec_InclusionOf a b s K) ∧ (∀ K : List Vc.Form → Int → Prop, K F c → f_impl_InclusionOf a b s K) ∧ cnt F ≤ 8 ∧ F.length ≤ 8 := by
    by_cases ok : PairOk a b
    · refine ⟨incF a b s, 0, fun K hK => m_specInc hf hf' (fun _ => hK) (fun n => absurd ok n), fun K hK => m_implInc hf hf' (fun _ => hK) (fun n => absurd ok n), ?_⟩
      have := ok.2.2
      unfold incF
      split
      · exact ⟨by rw [genO_cnt]; omega, by rw [genO_len]; omega⟩
      · exact ⟨by rw [genO_cnt]; omega, by rw [genO_len]; omega⟩
    · exact ⟨[], pairC a b, fun K hK => m_specInc hf hf' (fun n => absurd n ok) (fun _ => hK), fun K hK => m_implInc hf hf' (fun n => absurd n ok) (fun _ => hK), by simp [cnt], by simp⟩
  refine hsp _ (m_toAlgebra d1 d2 d3 (m_toAlgebra e1 e2 e3 (him _ ?_)))
  refine same_FormS (not_no (ne_no ?_))
  refine m_toAlgebra d1 d2 d3 (same_Algebra (not_no ?_))
  refine m_toAlgebra e1 e2 e3 (same_Algebra (not_no ?_))
  refine m_markAlgebraN (by omega) d1 d2 d3 fun x0 n0 n1 n2 => ?_
  refine m_markAlgebraN (by omega) e1 e2 e3 fun x1 k0 k1 k2 => ?_
  refine lt_no (by omega) ?_
  refine same_FormS (not_no ?_)
  refine m_markForms (by omega) (fun x3 n3 n4 n5 hh => ?_) (by omega)
  refine hh _ (lt_no (by omega) (ne_no ?_))
  refine m_toAlgebra (a := a) d1 d2 d3 (m_toAlgebra (a := b) e1 e2 e3 (him _ (same_FormS (not_no (ne_no ?_)))))
  exact hh _ (lt_no (by omega) (ne_no rfl))
end Go.Proofs.Ytodedifhdjdmlaa
