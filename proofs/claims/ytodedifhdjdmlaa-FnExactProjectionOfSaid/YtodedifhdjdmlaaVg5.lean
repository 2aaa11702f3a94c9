/- Plain law of row 31. -/
import Derived.Test.YtodedifhdjdmlaaVg1
import Derived.Test.YtodedifhdjdmlaaGL5
set_option linter.unusedVariables false
set_option linter.unusedSimpArgs false
namespace Go.Proofs.Ytodedifhdjdmlaa
open Go Vc
def noF (n : Nat) : List Vc.Form := List.replicate n ⟨[]⟩
def projF (p q : Nat) (s : Bool) : List Vc.Form := if s = true then noF p ++ genO 0 q else genO 0 p ++ noF q
def pickF (p : Nat) (s : Bool) (j : Nat) : Vc.Form := if s = true then (if j < p then ⟨[]⟩ else genF (j - p)) else (if j < p then genF j else ⟨[]⟩)
def pickL (p : Nat) (s : Bool) (n : Nat) : List Vc.Form := (List.range n).map (pickF p s)
theorem pickL_succ (p : Nat) (s : Bool) (n : Nat) : pickL p s (n + 1) = pickL p s n ++ [pickF p s n] := by simp [pickL, List.range_succ]
theorem pickL_len (p : Nat) (s : Bool) (n : Nat) : (pickL p s n).length = n := by simp [pickL]
theorem pick_all (p q : Nat) (s : Bool) : pickL p s (p + q) = projF p q s := by
  apply List.ext_getElem
  · rw [pickL_len]; unfold projF noF
    split
    · rw [List.length_append, List.length_replicate, genO_len]
    · rw [List.length_append, List.length_replicate, genO_len]
  · intro i h1 h2
    unfold projF noF genO pickL pickF at *
    cases s with
    | true =>
      simp only [if_true, List.getElem_map, List.getElem_range, List.getElem_append, List.length_replicate, List.getElem_replicate, Nat.zero_add]
      split
      · rfl
      · rfl
    | false =>
      simp only [Bool.false_eq_true, if_false, List.getElem_map, List.getElem_range, List.getElem_append, List.length_map, List.length_range, List.getElem_replicate, Nat.zero_add]
      split <;> rfl
theorem cnt_noF (n : Nat) : cnt (noF n) = 0 := by simp [cnt, noF, List.map_replicate]
theorem cnt_app (a b : List Vc.Form) : cnt (a ++ b) = cnt a + cnt b := by simp [cnt]
theorem projF_small {p q : Nat} {s : Bool} (h : p + q ≤ 8) : cnt (projF p q s) ≤ 8 ∧ (projF p q s).length ≤ 8 := by
  unfold projF
  split
  · rw [cnt_app, cnt_noF, genO_cnt, List.length_append, genO_len, noF, List.length_replicate]; omega
  · rw [cnt_app, cnt_noF, genO_cnt, List.length_append, genO_len, noF, List.length_replicate]; omega
theorem m_specProjn {a b : Alg} {s : Bool} {K : List Vc.Form → Int → Prop} (hf : FitAlg a) (hg : FitAlg b) (h0 : PairOk a b → K (projF a.degrees.length b.degrees.length s) 0) (h1 : ¬ PairOk a b → K [] (pairC a b)) : f_spec_ProjectionOf a b s K := by
  unfold f_spec_ProjectionOf
  refine m_l04Pair hf hg (fun ok => ?_) (fun no hc => ?_)
  · rw [if_neg (by simp)]
    have h := h0 ok
    obtain ⟨oa, ob, h8⟩ := ok
    rw [i64_in ((a.degrees.length : Int) + (b.degrees.length : Int)) (by omega)]
    refine whileP_inv (fun (t : List Vc.Form × Int) => (0 ≤ t.2 ∧ t.2 ≤ a.degrees.length + b.degrees.length) ∧ t.1 = pickL a.degrees.length s t.2.toNat) (fun t => a.degrees.length + b.degrees.length - t.2.toNat) ?_ ⟨by dsimp only; omega, by rfl⟩
    rintro ⟨t, i⟩ next ⟨k1, k2⟩ hn
    dsimp only at k1 k2 hn ⊢
    have hroom : Room (t.length + 1) 24 := by rw [k2, pickL_len]; unfold Room; omega
    split
    · rename_i hi
      rw [i64_in (i + 1) (by omega)]
      have hk : ∀ f, pickF a.degrees.length s i.toNat = f → next (t ++ [f], i + 1) := fun f hf => hn _ ⟨by dsimp only; omega, by dsimp only; rw [k2, show (i + 1).toNat = i.toNat + 1 by omega, pickL_succ, hf]⟩ (by dsimp only; omega)
      unfold pickF at hk
      split
      · rename_i hp
        cases s with
        | false =>
          rw [if_pos (by simp)]
          exact m_l04Generator (by omega) ⟨hroom, hk _ (by rw [if_neg (by simp), if_pos (by omega)])⟩
        | true =>
          rw [if_neg (by simp), if_neg (by omega)]
          exact ⟨hroom, hk _ (by rw [if_pos rfl, if_pos (by omega)])⟩
      · rename_i hp
        rw [if_pos (by omega)]
        cases s with
        | false =>
          rw [if_neg (by simp)]
          exact ⟨hroom, hk _ (by rw [if_neg (by simp), if_neg (by omega)])⟩
        | true =>
          rw [if_pos rfl, i64_in _ (by omega)]
          exact m_l04Generator (by omega) ⟨hroom, hk _ (by rw [if_pos rfl, if_neg (by omega), show (i - (a.degrees.length : Int)).toNat = i.toNat - a.degrees.length by omega])⟩
    · rename_i hi
      rw [k2, show i.toNat = a.degrees.length + b.degrees.length by omega, pick_all]; exact h
  · rw [if_pos hc]; exact h1 no
theorem m_implProjn {a b : Alg} {s : Bool} {K : List Vc.Form → Int → Prop} (hf : FitAlg a) (hg : FitAlg b) (h0 : PairOk a b → K (projF a.degrees.length b.degrees.length s) 0) (h1 : ¬ PairOk a b → K [] (pairC a b)) : f_impl_ProjectionOf a b s K := by
  unfold f_impl_ProjectionOf
  refine m_pairCode hf hg (fun ok => ?_) (fun no hc => ?_)
  · rw [if_neg (by simp)]
    have h := h0 ok
    obtain ⟨oa, ob, h8⟩ := ok
    unfold projF noF at h
    split
    · rename_i q
      rw [if_pos q] at h
      rw [show ((a.degrees.length : Int)).toNat = a.degrees.length by omega]
      have hb : ∀ K' : List Vc.Form → Prop, K' (genO 0 b.degrees.length) → f_impl_generators 0 (b.degrees.length : Int) K' := fun K' hK => m_generators (by omega) (by omega) (by simpa using hK)
      have hr : Room ((List.replicate a.degrees.length ((⟨[]⟩ : Vc.Form) : Vc.Form)).length + (genO 0 b.degrees.length).length) 24 := by rw [List.length_replicate, genO_len]; unfold Room; omega
      exact ⟨⟨by omega, hb _ ⟨hr, h⟩⟩, hb _ ⟨by omega, hr, h⟩⟩
    · rename_i q
      rw [if_neg q] at h
      have hb : ∀ K' : List Vc.Form → Prop, K' (genO 0 a.degrees.length) → f_impl_generators 0 (a.degrees.length : Int) K' := fun K' hK => m_generators (by omega) (by omega) (by simpa using hK)
      exact hb _ ⟨by rw [genO_len]; unfold Room; omega, h⟩
  · rw [if_pos hc]; exact h1 no
theorem pure_ProjectionOf (a b : Alg) (s : Bool) (hg : GoodAlg a) (hh : GoodAlg b) (hb : LenAlg a) (hc : LenAlg b) : f_laws_FnExactProjectionOf a b s (fun r => r = true) := by
  unfold f_laws_FnExactProjectionOf
  refine m_szAlgebraG (by omega) hb (fun r hr hr2 d1 d2 d3 => ?_) (fun r hr => by rw [if_pos hr])
  rw [if_neg (by omega)]
  refine m_szAlgebraG (by omega) hc (fun t ht ht2 e1 e2 e3 => ?_) (fun r hr => by rw [if_pos hr])
  rw [if_neg (by omega)]
  have hf := hg.fit d3
  have hf' := hh.fit e3
  refine m_toAlgebra d1 d2 d3 (m_toAlgebra e1 e2 e3 ?_)
  obtain ⟨F, c, hsp, him, hsm⟩ : ∃ F c, (∀ K : List Vc.Form → Int → Prop, K F c → f_spec_ProjectionOf a b s K) ∧ (∀ K : List Vc.Form → Int → Prop, K F c → f_impl_ProjectionOf a b s K) ∧ cnt F ≤ 8 ∧ F.length ≤ 8 := by
    by_cases ok : PairOk a b
    · exact ⟨projF a.degrees.length b.degrees.length s, 0, fun K hK => m_specProjn hf hf' (fun _ => hK) (fun n => absurd ok n), fun K hK => m_implProjn hf hf' (fun _ => hK) (fun n => absurd ok n), projF_small ok.2.2⟩
    · exact ⟨[], pairC a b, fun K hK => m_specProjn hf hf' (fun n => absurd n ok) (fun _ => hK), fun K hK => m_implProjn hf hf' (fun n => absurd n ok) (fun _ => hK), by simp [cnt], by simp⟩
  refine hsp _ (m_toAlgebra d1 d2 d3 (m_toAlgebra e1 e2 e3 (him _ ?_)))
  refine same_FormS (not_no (ne_no ?_))
  refine m_toAlgebra d1 d2 d3 (same_Algebra (not_no ?_))
  refine m_toAlgebra e1 e2 e3 (same_Algebra (not_no ?_))
  refine m_markAlgebraN (by omega) d1 d2 d3 fun x0 n0 n1 n2 => ?_
  refine m_markAlgebraN (by omega) e1 e2 e3 fun x1 k0 k1 k2 => ?_
  refine lt_no (by omega) ?_
  refine same_FormS (not_no ?_)
  refine m_markForms (by omega) (fun x3 n3 n4 n5 hh => ?_) (by omega)
  refine hh _ (lt_no (by omega) (ne_no ?_))
  refine m_toAlgebra (a := a) d1 d2 d3 (m_toAlgebra (a := b) e1 e2 e3 (him _ (same_FormS (not_no (ne_no ?_)))))
  exact hh _ (lt_no (by omega) (ne_no rfl))
end Go.Proofs.Ytodedifhdjdmlaa
