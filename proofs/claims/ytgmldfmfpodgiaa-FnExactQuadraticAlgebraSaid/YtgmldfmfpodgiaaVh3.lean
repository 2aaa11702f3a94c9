/- Plain law of row 21. -/
import Derived.Test.YtgmldfmfpodgiaaVh1
import Derived.Test.YtgmldfmfpodgiaaVh2
set_option linter.unusedVariables false
set_option linter.unusedSimpArgs false
namespace Go.Proofs.Ytgmldfmfpodgiaa
open Go Vc
theorem m_indexFunc {xs : List Term} {p : Term → (Bool → Prop) → Prop} {Q : Term → Bool} (hp : ∀ t, t ∈ xs → ∀ K' : Bool → Prop, K' (Q t) → p t K') {K : Int → Prop} (h1 : ∀ i, i < xs.length → (∀ j, j < i → Q (xs.getD j default) = false) → Q (xs.getD i default) = true → K i) (h2 : (∀ j, j < xs.length → Q (xs.getD j default) = false) → K (-1)) : f_slices_IndexFunc_impl_Term_impl_Term xs p K := by
  unfold f_slices_IndexFunc_impl_Term_impl_Term
  refine forN_inv (fun i _ => ∀ j, j < i → Q (xs.getD j default) = false) xs.length ?_ ?_ _ _ _ (by omega) (by intro j hj; omega)
  · intro i s next hi hI hn
    refine hp _ (getD_mem hi) _ ?_
    split
    · rename_i q; exact h1 i hi hI q
    · rename_i q
      refine hn _ fun j hj => ?_
      by_cases hji : j = i
      · subst hji; simpa using q
      · exact hI j (by omega)
  · intro s hI; exact h2 hI
theorem filter_none {xs : List Term} {Q : Term → Bool} (h : ∀ j, j < xs.length → Q (xs.getD j default) = false) : xs.filter (fun t => !Q t) = xs := by
  rw [List.filter_eq_self]
  intro t ht
  obtain ⟨j, hj, rfl⟩ := List.getElem_of_mem ht
  have := h j hj
  simp [List.getD, hj] at this
  simp [this]
theorem filter_take {xs : List Term} {Q : Term → Bool} {j : Nat} (hj : j < xs.length) : (xs.take (j + 1)).filter (fun t => !Q t) = (xs.take j).filter (fun t => !Q t) ++ (if Q (xs.getD j default) = true then [] else [xs.getD j default]) := by
  rw [take_getD hj, List.filter_append]
  congr 1
  by_cases q : Q (xs.getD j default) = true
  · rw [if_pos q, List.filter_cons_of_neg (by rw [q]; simp), List.filter_nil]
  · rw [if_neg q, List.filter_cons_of_pos (by simpa using q), List.filter_nil]
theorem m_deleteFunc {xs : List Term} {p : Term → (Bool → Prop) → Prop} {Q : Term → Bool} (hp : ∀ t, t ∈ xs → ∀ K' : Bool → Prop, K' (Q t) → p t K') (hl : xs.length ≤ 100000000) {K : List Term → Prop} (h : K (xs.filter fun t => !Q t)) : f_slices_DeleteFunc_impl_Term_impl_Term xs p K := by
  unfold f_slices_DeleteFunc_impl_Term_impl_Term
  refine m_indexFunc hp (fun i hi h1 h2 => ?_) (fun h1 => ?_)
  · rw [if_neg (by omega), i64_in _ (by omega)]
    refine whileP_inv (fun (s : List Term × Int × Int) => s.1.length = xs.length ∧ (0 ≤ s.2.1 ∧ s.2.1 < s.2.2 ∧ s.2.2 ≤ xs.length) ∧ s.1.take s.2.1.toNat = (xs.take s.2.2.toNat).filter (fun t => !Q t) ∧ ∀ q : Nat, s.2.2 ≤ (q : Int) → s.1.getD q default = xs.getD q default) (fun s => xs.length - s.2.2.toNat) ?_ ⟨rfl, by dsimp only; omega, ?_, fun _ _ => rfl⟩
    · rintro ⟨s, i, j⟩ next ⟨g1, g2, g3, g4⟩ hn
      dsimp only at g1 g2 g3 g4 hn ⊢
      split
      · rename_i hj
        have hjn : j.toNat < xs.length := by omega
        have e := g4 j.toNat (by omega)
        rw [e]
        have hf := filter_take (Q := Q) hjn
        have nj : (j + 1).toNat = j.toNat + 1 := by omega
        have ni : (i + 1).toNat = i.toNat + 1 := by omega
        refine ⟨by omega, hp _ (getD_mem hjn) _ ?_⟩
        rw [i64_in (j + 1) (by omega), i64_in (i + 1) (by omega)]
        split
        · rename_i q
          rw [if_neg q] at hf
          refine ⟨by omega, hn _ ⟨by simpa using g1, by dsimp only; omega, ?_, fun q hq => ?_⟩ (by dsimp only; omega)⟩
          · dsimp only
            rw [nj, ni, hf, ← g3, take_getD (by simp; omega), List.take_set_of_le (by omega)]
            congr 2
            rw [set_getD (by omega), if_pos rfl]
          · dsimp only at hq ⊢
            rw [set_getD (by omega), if_neg (by omega)]
            exact g4 q (by omega)
        · rename_i q
          rw [if_pos (by simpa using q), List.append_nil] at hf
          refine hn _ ⟨g1, by dsimp only; omega, ?_, fun q hq => g4 q (by dsimp only at hq; omega)⟩ (by dsimp only; omega)
          dsimp only
          rw [nj, hf, ← g3]
      · rename_i hj
        have hjn : j.toNat = xs.length := by omega
        refine ⟨by omega, ⟨by omega, ?_⟩, ?_⟩
        · simp only [List.length_append, List.length_take, List.length_replicate]; omega
        · have hle : i.toNat ≤ s.length := by omega
          have : (s.take i.toNat).length = i.toNat := by rw [List.length_take]; omega
          rw [List.take_append_of_le_length (by omega), List.take_of_length_le (by omega), g3, hjn, List.take_length]
          exact h
    · dsimp only
      rw [show ((i : Int)).toNat = i by omega, show ((i : Int) + 1).toNat = i + 1 by omega, filter_take hi, if_pos h2, List.append_nil]
      have : ∀ j, j < (xs.take i).length → Q ((xs.take i).getD j default) = false := fun j hj => by
        rw [List.length_take] at hj
        have := h1 j (by omega)
        have hjx : j < xs.length := by omega
        simpa [List.getD, List.getElem?_take, show j < i by omega, hjx] using this
      exact (filter_none this).symm
  · rw [if_pos rfl]
    rw [filter_none h1] at h; exact h
theorem m_cloneT {l : List Term} {K : List Term → Prop} (hl : l.length ≤ 1048576) (h : K l) : f_slices_Clone_impl_Term_impl_Term l K := by
  unfold f_slices_Clone_impl_Term_impl_Term
  exact ⟨fun e => e ▸ h, by unfold Room; omega, h⟩
theorem m_cloneI {l : List Int} {K : List Int → Prop} (hl : l.length ≤ 1048576) (h : K l) : f_slices_Clone_int64_int64 l K := by
  unfold f_slices_Clone_int64_int64
  exact ⟨fun e => e ▸ h, by unfold Room; omega, h⟩
def isQ (t : Term) : Bool := decide (wdU t.mono 8 = 2)
def quadF (f : Vc.Form) : Vc.Form := ⟨f.terms.filter isQ⟩
theorem m_partQ {l : List Term} {K : Vc.Form → Prop} (hp : FitT l) (hl : l.length ≤ 1048576) (h : K (quadF ⟨l⟩)) : f_impl_part ⟨l⟩ f_impl_QuadraticParts_1 K := by
  unfold f_impl_part
  refine m_cloneT hl (m_deleteFunc (Q := fun t => !isQ t) (fun t ht K' hK' => ?_) (by dsimp only; omega) ?_)
  · unfold f_impl_part_1
    refine m_powerOf (hp t ht) ?_
    unfold f_impl_QuadraticParts_1
    exact m_length (FitT.pos hp t ht) hK'
  · have e : (l.filter fun t => !(fun t => !isQ t) t) = l.filter isQ := by congr 1; funext t; simp
    rw [e]; exact h
theorem m_l02WordsF {l : List Term} {K : Vc.Form → Prop} (hp : PosT l) (hl : l.length ≤ 1048576) (h : K (quadF ⟨l⟩)) : f_spec_l02Words ⟨l⟩ 2 K := by
  unfold f_spec_l02Words
  dsimp only
  refine whileP_inv (fun (s : List Term × Int) => (0 ≤ s.2 ∧ s.2 ≤ l.length) ∧ s.1 = (l.take s.2.toNat).filter isQ) (fun s => l.length - s.2.toNat) ?_ ⟨by dsimp only; omega, rfl⟩
  rintro ⟨s, i⟩ next ⟨g1, g2⟩ hn
  dsimp only at g1 g2 hn ⊢
  split
  · rename_i hi
    have hin : i.toNat < l.length := by omega
    have ni : (i + 1).toNat = i.toNat + 1 := by omega
    have hle : s.length ≤ l.length := by
      rw [g2]
      exact Nat.le_trans (List.length_filter_le _ _) (by rw [List.length_take]; omega)
    refine ⟨by omega, m_l02Word (hp _ (getD_mem hin)) ?_⟩
    rw [i64_in (i + 1) (by omega)]
    split
    · rename_i q
      refine ⟨by omega, by unfold Room; omega, hn _ ⟨by dsimp only; omega, ?_⟩ (by dsimp only; omega)⟩
      dsimp only
      rw [ni, take_getD hin, List.filter_append, g2, List.filter_cons_of_pos (by unfold isQ; exact decide_eq_true q), List.filter_nil]
    · rename_i q
      refine hn _ ⟨by dsimp only; omega, ?_⟩ (by dsimp only; omega)
      dsimp only
      rw [ni, take_getD hin, List.filter_append, g2, List.filter_cons_of_neg (by unfold isQ; simpa using q), List.filter_nil, List.append_nil]
  · rename_i hi
    rw [List.take_of_length_le (by omega)] at g2
    rw [g2]; exact h
def quadA (a : Alg) : Alg := ⟨a.degrees, a.images.map quadF⟩
theorem m_specQuad {a : Alg} {K : Alg → Int → Prop} (hf : FitAlg a) (h1 : ¬ OkAlg a → K ⟨[], []⟩ 1) (h2 : OkAlg a → ¬ Minimal a → K ⟨[], []⟩ 5) (h3 : OkAlg a → Minimal a → K (quadA a) 0) : f_spec_QuadraticAlgebra a K := by
  unfold f_spec_QuadraticAlgebra
  refine m_l10Minimal hf (fun no => ?_) (fun ok no => ?_) (fun ok m => ?_)
  · rw [if_pos (by decide)]; exact h1 no
  · rw [if_pos (by decide)]; exact h2 ok no
  · rw [if_neg (by decide)]
    have h8 := ok.deg.1
    have hlen := ok.len
    unfold f_spec_l10Quadratic f_spec_l01Own
    refine ⟨by unfold Room; omega, ?_⟩
    refine whileP_inv (fun (s : List Vc.Form × Int) => (0 ≤ s.2 ∧ s.2 ≤ a.images.length) ∧ s.1 = (a.images.take s.2.toNat).map quadF) (fun s => a.images.length - s.2.toNat) ?_ ⟨by dsimp only; omega, rfl⟩
    rintro ⟨s, i⟩ next ⟨g1, g2⟩ hn
    dsimp only at g1 g2 hn ⊢
    split
    · rename_i hi
      have hin : i.toNat < a.images.length := by omega
      have hF := hf i.toNat hin
      have hL : (⟨(a.images.getD i.toNat default).terms⟩ : Vc.Form) = a.images.getD i.toNat default := rfl
      rw [← hL]
      refine ⟨by omega, m_l02WordsF hF.1.pos hF.2 ⟨by rw [g2]; unfold Room; simp; omega, ?_⟩⟩
      rw [i64_in (i + 1) (by omega)]
      refine hn _ ⟨by dsimp only; omega, ?_⟩ (by dsimp only; omega)
      dsimp only
      rw [show (i + 1).toNat = i.toNat + 1 by omega, take_getD hin, List.map_append, g2]
      rfl
    · rename_i hi
      rw [List.take_of_length_le (by omega)] at g2
      rw [g2]; exact h3 ok m
theorem m_implQuad {a : Alg} {K : Alg → Int → Prop} (hf : FitAlg a) (h1 : ¬ OkAlg a → K ⟨[], []⟩ 1) (h2 : OkAlg a → ¬ Minimal a → K ⟨[], []⟩ 5) (h3 : OkAlg a → Minimal a → K (quadA a) 0) : f_impl_QuadraticAlgebra a K := by
  unfold f_impl_QuadraticAlgebra
  refine m_pageCode hf (fun no => ?_) (fun ok no => ?_) (fun ok m => ?_)
  · rw [if_pos (by decide)]; exact h1 no
  · rw [if_pos (by decide)]; exact h2 ok no
  · rw [if_neg (by decide)]
    have h8 := ok.deg.1
    have hlen := ok.len
    unfold f_impl_QuadraticParts
    refine m_algebraCode0 hf (fun _ => ?_) (fun no => absurd ok no)
    rw [if_neg (by decide)]
    refine forN_inv (fun i (s : List Vc.Form) => s = (a.images.take i).map quadF) a.images.length ?_ ?_ _ _ _ (by omega) rfl
    · intro i s next hi g2 hn
      have hF := hf i hi
      have hL : (⟨(a.images.getD i default).terms⟩ : Vc.Form) = a.images.getD i default := rfl
      rw [← hL]
      refine m_partQ hF.1 hF.2 ⟨by rw [g2]; unfold Room; simp; omega, hn _ ?_⟩
      rw [take_getD hi, List.map_append, g2]
      rfl
    · intro s g2
      rw [List.take_length] at g2
      rw [g2]
      exact m_cloneI (by omega) (h3 ok m)
theorem res_Quad {a : Alg} (hf : FitAlg a) : ∃ x y, SmallAlg x ∧ (∀ K : Alg → Int → Prop, K x y → f_spec_QuadraticAlgebra a K) ∧ (∀ K : Alg → Int → Prop, K x y → f_impl_QuadraticAlgebra a K) := by
  have sm : SmallAlg ⟨[], []⟩ := ⟨by simp, by simp, by simp [cnt]⟩
  by_cases ok : OkAlg a
  · by_cases m : Minimal a
    · refine ⟨quadA a, 0, ⟨?_, ?_, ?_⟩, fun K hK => m_specQuad hf (fun n => absurd ok n) (fun _ n => absurd m n) (fun _ _ => hK), fun K hK => m_implQuad hf (fun n => absurd ok n) (fun _ n => absurd m n) (fun _ _ => hK)⟩
      · have := ok.deg.1; show a.degrees.length ≤ _; omega
      · have := ok.deg.1; have := ok.len; show (a.images.map quadF).length ≤ _; rw [List.length_map]; omega
      · have h8 := ok.deg.1
        have hl := ok.len
        have := cnt_bd (fs := a.images.map quadF) (B := 1048576) fun i hi => by
          rw [List.length_map] at hi
          have h1 := (hf i hi).2
          have : ((a.images.map quadF).getD i default) = quadF (a.images.getD i default) := by simp [List.getD, hi]
          rw [this]
          exact Nat.le_trans (List.length_filter_le _ _) h1
        rw [List.length_map] at this
        have h2 : a.images.length * 1048576 ≤ 8 * 1048576 := Nat.mul_le_mul_right _ (by omega)
        show cnt (a.images.map quadF) ≤ _
        omega
    · exact ⟨⟨[], []⟩, 5, sm, fun K hK => m_specQuad hf (fun n => absurd ok n) (fun _ _ => hK) (fun _ n => absurd n m), fun K hK => m_implQuad hf (fun n => absurd ok n) (fun _ _ => hK) (fun _ n => absurd n m)⟩
  · exact ⟨⟨[], []⟩, 1, sm, fun K hK => m_specQuad hf (fun _ => hK) (fun n _ => absurd n ok) (fun n _ => absurd n ok), fun K hK => m_implQuad hf (fun _ => hK) (fun n _ => absurd n ok) (fun n _ => absurd n ok)⟩
theorem pure_QuadraticAlgebra (a : Alg) (hg : GoodAlg a) (hb : LenAlg a) : f_laws_FnExactQuadraticAlgebra a (fun r => r = true) := law_alg (K := fun r => r = true) rfl hb hg rfl res_Quad
end Go.Proofs.Ytgmldfmfpodgiaa
