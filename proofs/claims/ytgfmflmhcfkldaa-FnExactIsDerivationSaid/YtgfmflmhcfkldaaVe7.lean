/- Plain law of row 9. -/
import Derived.Test.YtgfmflmhcfkldaaVd4
import Derived.Test.YtgfmflmhcfkldaaGL7
set_option linter.unusedVariables false
set_option linter.unusedSimpArgs false
namespace Go.Proofs.Ytgfmflmhcfkldaa
open Go Vc
structure LenForms (l : List Vc.Form) : Prop where
  img : Big l.length
  trm : ∀ f, f ∈ l → Big f.terms.length
theorem forms_lens {x : List Vc.Form} {u : Value} {fp : List Nat} {w : World} (h : TForms.rep x [u] fp w) : LenForms x := by
  have h2 := sl_max h
  refine ⟨by unfold Big; omega, fun f hf => ?_⟩
  obtain ⟨i, hi, rfl⟩ := List.getElem_of_mem hf
  obtain ⟨A, c, hv, cs, hl, hc, hr⟩ := sl_at h i hi
  obtain ⟨z, rfl⟩ := List.length_eq_one_iff.1 (show cs.length = 1 from hl)
  have h3 := sl_max (form_parts hr)
  unfold Big; omega
theorem der_lens {x : Der} {u v : Value} {fp : List Nat} {w : World} (h : TDer.rep x [u, v] fp w) : LenForms x.images := forms_lens (der_parts h).2
structure OkDer (a : Alg) (d : Der) : Prop where
  drop : 0 ≤ d.drop ∧ d.drop ≤ 12
  len : d.images.length = a.degrees.length
  frm : ∀ i, i < d.images.length → OkForm a.degrees (d.images.getD i default).terms ∧ Hom a.degrees (d.images.getD i default).terms (a.degrees.getD i default - d.drop)
def FitForms (l : List Vc.Form) : Prop := ∀ i, i < l.length → FitT (l.getD i default).terms ∧ (l.getD i default).terms.length ≤ 1048576
theorem m_isDerivation {a : Alg} {d : Der} {K : Bool → Prop} (hd : OkDeg a.degrees) (hf : FitForms d.images) (h1 : OkDer a d → K true) (h2 : ¬ OkDer a d → K false) : f_impl_isDerivation a d K := by
  unfold f_impl_isDerivation
  have h8 := hd.1
  refine m_within ?_
  split
  · rename_i q; exact h2 fun z => q (decide_eq_true z.drop)
  · rename_i q1
    have q1 := of_decide_eq_true (Decidable.not_not.1 q1)
    split
    · rename_i q; exact h2 fun z => q (by rw [z.len])
    · rename_i q2
      have q2 : d.images.length = a.degrees.length := by have := Decidable.not_not.1 q2; omega
      refine forN_inv (fun i (_ : Unit) => ∀ j : Nat, j < i → OkForm a.degrees (d.images.getD j default).terms ∧ Hom a.degrees (d.images.getD j default).terms (a.degrees.getD j default - d.drop)) d.images.length ?_ ?_ _ _ _ (by omega) (by intro j hj; omega)
      · intro i s next hi hI hn
        obtain ⟨hft, hfl⟩ := hf i hi
        have hL : (⟨(d.images.getD i default).terms⟩ : Vc.Form) = d.images.getD i default := rfl
        have hdi := hd.2 i (by omega)
        rw [← hL]
        refine m_isForm hd hft ?_
        split
        · rename_i q; exact h2 fun z => q (decide_eq_true (z.frm _ hi).1)
        · rename_i q3
          have q3 := of_decide_eq_true (Decidable.not_not.1 q3)
          rw [i64_in _ (by omega)]
          refine ⟨by omega, m_isOfDegree hd hft ?_⟩
          split
          · rename_i q; exact h2 fun z => q (decide_eq_true (z.frm _ hi).2)
          · rename_i q4
            have q4 := of_decide_eq_true (Decidable.not_not.1 q4)
            refine hn _ fun j hj => ?_
            by_cases e : j = i
            · subst e; exact ⟨q3, q4⟩
            · exact hI j (by omega)
      · intro s hI
        exact h1 ⟨q1, q2, hI⟩
theorem m_l09Is {a : Alg} {d : Der} {K : Bool → Prop} (hfa : FitAlg a) (hf : FitForms d.images) (h1 : OkAlg a → OkDer a d → K true) (h2 : ¬ (OkAlg a ∧ OkDer a d) → K false) : f_spec_l09Is a d K := by
  unfold f_spec_l09Is
  refine m_l02Is hfa (fun ok => ?_) (fun no => ?_)
  · rw [if_neg (by simp)]
    have hd := ok.deg
    have h8 := hd.1
    refine m_l01In ?_
    split
    · rename_i q; exact h2 fun z => q (decide_eq_true z.2.drop)
    · rename_i q1
      have q1 := of_decide_eq_true (Decidable.not_not.1 q1)
      split
      · rename_i q; exact h2 fun z => q (by rw [z.2.len])
      · rename_i q2
        have q2 : d.images.length = a.degrees.length := by have := Decidable.not_not.1 q2; omega
        refine whileP_inv (fun (s : Int) => 0 ≤ s ∧ s ≤ d.images.length ∧ ∀ i : Nat, (i : Int) < s → OkForm a.degrees (d.images.getD i default).terms ∧ Hom a.degrees (d.images.getD i default).terms (a.degrees.getD i default - d.drop)) (fun s => d.images.length - s.toNat) ?_ ⟨Int.le_refl _, by omega, fun i hi => by omega⟩
        rintro i next ⟨g1, g2, g3⟩ hn
        split
        · rename_i hi
          have hin : i.toNat < d.images.length := by omega
          obtain ⟨hft, hfl⟩ := hf i.toNat hin
          have hL : (⟨(d.images.getD i.toNat default).terms⟩ : Vc.Form) = d.images.getD i.toNat default := rfl
          have hdi := hd.2 i.toNat (by omega)
          have hwd : IntKind.i64.wrap (a.degrees.getD i.toNat default - d.drop) = a.degrees.getD i.toNat default - d.drop := i64_in _ (by omega)
          rw [i64_in (i + 1) (by omega), ← hL, hwd]
          have good : OkForm a.degrees (d.images.getD i.toNat default).terms → Hom a.degrees (d.images.getD i.toNat default).terms (a.degrees.getD i.toNat default - d.drop) → next (i + 1) := fun q3 hh => hn _ ⟨by omega, by omega, fun j hj => by
            by_cases e : j = i.toNat
            · subst e; exact ⟨q3, hh⟩
            · exact g3 j (by omega)⟩ (by omega)
          have form : ∀ r : Int, ∀ b : Bool, (OkForm a.degrees (d.images.getD i.toNat default).terms → (if ¬ (b = true) then K false else (if r ≥ 0 then ((0 ≤ i ∧ i < (a.degrees.length : Int)) ∧ (if r ≠ a.degrees.getD i.toNat default - d.drop then K false else next (i + 1))) else next (i + 1)))) →
              ((0 ≤ i ∧ i < (d.images.length : Int)) ∧ f_spec_l01Is a.degrees ⟨(d.images.getD i.toNat default).terms⟩ (fun r185 => (if ¬ (r185 = true) then K false else (if ¬ (b = true) then K false else (if r ≥ 0 then ((0 ≤ i ∧ i < (a.degrees.length : Int)) ∧ (if r ≠ a.degrees.getD i.toNat default - d.drop then K false else next (i + 1))) else next (i + 1)))))) := fun r b hh => by
            refine ⟨by omega, m_l01Is h8 hft.pos (by omega) ?_⟩
            split
            · rename_i q; exact h2 fun z => q (decide_eq_true (z.2.frm _ hin).1)
            · rename_i q3; exact hh (of_decide_eq_true (Decidable.not_not.1 q3))
          refine ⟨by omega, m_l01Degree hd hft.pos (by omega) (fun e => form _ _ fun q3 => ?_) (fun e hh => form _ _ fun q3 => ?_) (fun hno => form _ _ fun q3 => ?_)⟩
          · rw [if_neg (by simp), if_neg (by omega)]
            exact good q3 fun j hj => by omega
          · have hw0 := wtU_bd hd (hft.pos _ (getD_mem e)) a.degrees.length (Nat.le_refl _)
            rw [if_neg (by simp), if_pos (by omega)]
            refine ⟨by omega, ?_⟩
            split
            · rename_i q
              exact h2 fun z => q ((z.2.frm _ hin).2 0 e)
            · rename_i q
              have q := Decidable.not_not.1 q
              exact good q3 (q ▸ hh)
          · rw [if_pos (by simp)]
            exact h2 fun z => hno _ (z.2.frm _ hin).2
        · rename_i hi
          exact h1 ok ⟨q1, q2, fun i hi => g3 i (by omega)⟩
  · rw [if_pos (by simp)]
    exact h2 fun z => no z.1
theorem m_szDerivation {d : Der} {n : Int} {K : Int → Prop} (hl : LenForms d.images) (hn : 0 ≤ n ∧ n ≤ 1048576) (h1 : ∀ r, 0 ≤ r → d.images.length ≤ 1048576 → (∀ i, i < d.images.length → (d.images.getD i default).terms.length ≤ 1048576) → K r) (h2 : ∀ r, r < 0 → K r) : f_laws_szDerivation d n K := by
  unfold f_laws_szDerivation
  refine m_szFormS hl.img hl.trm hn (fun r g1 g2 g3 g4 => ?_) (fun r hr => by rw [if_pos hr]; exact h2 _ (by omega))
  rw [if_neg (by omega)]
  exact h1 r g1 (by omega) g4
theorem m_toDerivation {d : Der} {K : Der → Prop} (h2 : d.images.length ≤ 1048576) (h3 : ∀ i, i < d.images.length → (d.images.getD i default).terms.length ≤ 1048576) (h : K d) : f_laws_toDerivation d K := by
  unfold f_laws_toDerivation
  exact m_toFormS h2 h3 h
theorem same_Derivation {d : Der} {K : Bool → Prop} (h : K true) : f_laws_eqDerivation d d K := by
  unfold f_laws_eqDerivation
  exact ne_no (m_eqFormS (by simpa using h))
theorem pure_IsDerivation (a : Alg) (d : Der) (hg : GoodAlg a) (gd : Fit .i64 d.drop ∧ ∀ f, f ∈ d.images → ∀ t, t ∈ f.terms → FitA .u8 t.mono ∧ Fit .i64 t.factor) (hb : LenAlg a) (hl : LenForms d.images) : f_laws_FnExactIsDerivation a d (fun r => r = true) := by
  unfold f_laws_FnExactIsDerivation
  refine m_szAlgebraB hb (fun r hr hr2 d1 d2 d3 => ?_) (fun r hr => by rw [if_pos hr])
  rw [if_neg (by omega)]
  refine m_szDerivation hl (by omega) (fun r hr e2 e3 => ?_) (fun r hr => by rw [if_pos hr])
  rw [if_neg (by omega)]
  have hfa := hg.fit d3
  have hff : FitForms d.images := fun i hi => ⟨fun t ht => (gd.2 _ (getD_mem hi) t ht).1, e3 i hi⟩
  refine m_toAlgebra d1 d2 d3 (m_toDerivation e2 e3 ?_)
  have tail : ∀ b : Bool, (∀ K : Bool → Prop, K b → f_impl_IsDerivation a d K) → f_laws_toAlgebra a (fun r70 => f_laws_toDerivation d (fun r93 => f_impl_IsDerivation r70 r93 (fun r111 => (if r111 ≠ b then false = true else f_laws_toAlgebra a (fun r120 => f_laws_eqAlgebra r70 r120 (fun r139 => (if ¬ (r139 = true) then false = true else f_laws_toDerivation d (fun r148 => f_laws_eqDerivation r93 r148 (fun r162 => (if ¬ (r162 = true) then false = true else true = true))))))))))  := fun b him =>
    m_toAlgebra d1 d2 d3 (m_toDerivation e2 e3 (him _ (neb_no (m_toAlgebra d1 d2 d3 (same_Algebra (not_no (m_toDerivation e2 e3 (same_Derivation (not_no rfl)))))))))
  have impl : ∀ K : Bool → Prop, (OkAlg a → OkDer a d → K true) → (¬ (OkAlg a ∧ OkDer a d) → K false) → f_impl_IsDerivation a d K := fun K k1 k2 => by
    unfold f_impl_IsDerivation
    refine m_IsAlgebra hfa (fun ok => ?_) (fun no => ?_)
    · rw [if_pos rfl]
      exact m_isDerivation ok.deg hff (k1 ok) (fun n => k2 fun z => n z.2)
    · rw [if_neg (by simp)]
      exact k2 fun z => no z.1
  unfold f_spec_IsDerivation
  refine m_l09Is hfa hff (fun ok od => ?_) (fun no => ?_)
  · exact tail true fun K hK => impl K (fun _ _ => hK) (fun n => absurd ⟨ok, od⟩ n)
  · exact tail false fun K hK => impl K (fun x y => absurd ⟨x, y⟩ no) (fun _ => hK)
end Go.Proofs.Ytgfmflmhcfkldaa
