/- Plain law of row 28. -/
import Derived.Test.YtgfmflmhcfkldaaVd4
import Derived.Test.YtgfmflmhcfkldaaGL9
set_option linter.unusedVariables false
set_option linter.unusedSimpArgs false
namespace Go.Proofs.Ytgfmflmhcfkldaa
open Go Vc
theorem m_markInt64N {l : List Int} {m : Int} {K : Int → List Int → Prop} (hm : 0 ≤ m ∧ m + l.length ≤ 4611686018427387904) (h : ∀ x', K (m + l.length) x') : f_laws_markInt64S l m K := by
  unfold f_laws_markInt64S
  refine whileP_inv (fun (s : List Int × Int × Int) => s.1.length = l.length ∧ (0 ≤ s.2.2 ∧ s.2.2 ≤ l.length) ∧ s.2.1 = m + s.2.2) (fun s => l.length - s.2.2.toNat) ?_ ⟨rfl, by dsimp only; omega, by simp⟩
  rintro ⟨x, c, i⟩ next ⟨h1, h2, h3⟩ hn
  dsimp only at h1 h2 h3 ⊢
  split
  · rename_i hi
    refine ⟨by omega, ?_⟩
    rw [i64_in (c + 1) (by omega), i64_in (i + 1) (by omega)]
    exact hn _ ⟨by simpa using h1, by dsimp only; omega, by dsimp only; omega⟩ (by dsimp only; omega)
  · rename_i hi
    have hc : c = m + l.length := by omega
    rw [hc]
    exact h x
def cnt (fs : List Vc.Form) : Nat := (fs.map (fun f => f.terms.length)).sum
theorem cnt_bd {fs : List Vc.Form} {B : Nat} (h : ∀ i, i < fs.length → (fs.getD i default).terms.length ≤ B) : cnt fs ≤ fs.length * B := by
  induction fs with
  | nil => simp [cnt]
  | cons f fs ih =>
    have h0 := h 0 (by simp)
    have h1 := ih fun i hi => by have := h (i + 1) (by simpa using hi); simpa using this
    simp only [List.getD_cons_zero] at h0
    simp only [cnt, List.map_cons, List.sum_cons, List.length_cons, Nat.add_mul, Nat.one_mul] at h1 ⊢
    omega
theorem m_markFormsN {fs : List Vc.Form} {m : Int} {K : Int → List Vc.Form → Prop} (hm : 0 ≤ m ∧ m + 9 * cnt fs ≤ 4611686018427387904) (h : ∀ x' n, 0 ≤ n → n ≤ m + 9 * cnt fs → K n x') (hl : fs.length ≤ 1048576) : f_laws_markFormS fs m K := by
  unfold f_laws_markFormS
  let part (i : Nat) : Int := m + 9 * cnt (fs.take i)
  have hp0 : part 0 = m := by simp [part, cnt]
  have hps : ∀ i, i < fs.length → part (i + 1) = part i + 9 * (fs.getD i default).terms.length := by
    intro i hi
    simp only [part, cnt, List.take_add_one, List.getElem?_eq_getElem hi, Option.toList_some, List.map_append, List.sum_append, List.map_cons, List.map_nil, List.sum_cons, List.sum_nil, List.getD, Option.getD_some]
    omega
  have hpl : part fs.length = m + 9 * cnt fs := by simp [part]
  have hmono : ∀ i, i ≤ fs.length → m ≤ part i ∧ part i ≤ m + 9 * cnt fs := by
    intro i hi
    have : cnt fs = cnt (fs.take i) + cnt (fs.drop i) := by
      unfold cnt; rw [← List.sum_append, ← List.map_append, List.take_append_drop]
    simp only [part]; omega
  refine whileP_inv (fun (s : List Vc.Form × Int × Int) => s.1.length = fs.length ∧ (0 ≤ s.2.2 ∧ s.2.2 ≤ fs.length) ∧ s.2.1 = part s.2.2.toNat ∧ ∀ j : Nat, s.2.2 ≤ (j : Int) → s.1.getD j default = fs.getD j default) (fun s => fs.length - s.2.2.toNat) ?_ ⟨rfl, by dsimp only; omega, by dsimp only; exact hp0.symm, fun _ _ => rfl⟩
  rintro ⟨x, c, i⟩ next ⟨h1, h2, h3, h5⟩ hn
  dsimp only at h1 h2 h3 h5 ⊢
  split
  · rename_i hi
    refine ⟨by omega, ?_⟩
    have hin : i.toNat < fs.length := by omega
    have hxi : x.getD i.toNat default = fs.getD i.toNat default := h5 _ (by omega)
    have hs := hps i.toNat hin
    have hb := hmono (i.toNat + 1) (by omega)
    have hb0 := hmono i.toNat (by omega)
    rw [hxi]
    refine m_markTermS (by rw [h3]; omega) fun y hy ht => ?_
    rw [i64_in (i + 1) (by omega)]
    refine hn _ ⟨by simpa using h1, by dsimp only; omega, by dsimp only; rw [show (i + 1).toNat = i.toNat + 1 by omega, hs, h3], fun j hj => ?_⟩ (by dsimp only; omega)
    · dsimp only at hj ⊢
      rw [set_getD (by omega), if_neg (by omega)]
      exact h5 j (by omega)
  · rename_i hi
    have hie : i.toNat = fs.length := by omega
    have hc : c = part fs.length := by rw [h3, hie]
    have hb := hmono fs.length (Nat.le_refl _)
    rw [hc]
    exact h x _ (by omega) hb.2
theorem m_markAlgebraN {a : Alg} {m : Int} {K : Int → Alg → Prop} (hm : 0 ≤ m ∧ m ≤ 1000000000000) (h1 : a.degrees.length ≤ 1048576) (h2 : a.images.length ≤ 1048576) (h3 : ∀ i, i < a.images.length → (a.images.getD i default).terms.length ≤ 1048576) (h : ∀ x' n, 0 ≤ n → n ≤ 1000000000000000 → K n x') : f_laws_markAlgebra a m K := by
  unfold f_laws_markAlgebra
  have hc := cnt_bd h3
  have hc2 : a.images.length * 1048576 ≤ 1048576 * 1048576 := Nat.mul_le_mul_right _ h2
  refine m_markInt64N (by omega) fun d => ?_
  exact m_markFormsN (by omega) (fun fs n h0 hn => h _ n h0 (by omega)) (by omega)
theorem m_specD {a : Alg} {f : List Term} {K : Vc.Form → Int → Prop} (hf : FitAlg a) (ff : FitT f) (hl : f.length ≤ 1048576) (h1 : ¬ (OkAlg a ∧ OkForm a.degrees f) → K ⟨[]⟩ 1) (h2 : OkAlg a → OkForm a.degrees f → ∀ l, IsD a.degrees (imgsT a) f l → K (formR l).1 (formR l).2) : f_spec_DifferentialOfForm a ⟨f⟩ K := by
  unfold f_spec_DifferentialOfForm
  refine m_l02Both hf ff hl (fun z q => ?_) (fun z => ?_)
  · rw [if_neg (by omega)]
    refine m_l02D (z.algF hf) q ff fun l hd hln => ?_
    have hmo : ∀ t, t ∈ l → (OkMono a.degrees t.mono ↔ Low t.mono) ∧ ∀ i, i < 8 → 0 ≤ t.mono.get i ∧ t.mono.get i ≤ 60 := fun t ht => by
      obtain ⟨u, hu, hD⟩ := hd.mo t ht
      exact dmono_ok (z.algF hf) (q.mono hu) (ff.pos u hu) hD
    refine m_l01Told z.deg.1 (fun t ht i hi => by have := (hmo t ht).2 i hi; omega) (by dsimp only; omega) ?_
    exact told_formR hd.can (fun t ht => (hmo t ht).1) (h2 z q l hd)
  · rw [if_pos (by omega)]
    exact h1 z
theorem m_implD {a : Alg} {f : List Term} {K : Vc.Form → Int → Prop} (hf : FitAlg a) (ff : FitT f) (h1 : ¬ (OkAlg a ∧ OkForm a.degrees f) → K ⟨[]⟩ 1) (h2 : OkAlg a → OkForm a.degrees f → ∀ l, Canon l → (∀ x, coT l x % 10007 = tot (fun t => dT a.degrees (imgsT a) t.mono t.factor x) f % 10007) → K (formR l).1 (formR l).2) : f_impl_DifferentialOfForm a ⟨f⟩ K := by
  unfold f_impl_DifferentialOfForm
  refine m_algebraCode1 hf ff (fun z q => ?_) (fun z => ?_)
  · rw [if_neg (by omega)]
    refine m_sumOf q.canon ff fun s hs => m_d (z.algF hf) hs q ff fun out ho => ?_
    refine m_formG ho.ok (fun p hp => ?_) fun l hc hl _ => h2 z q l hc fun x => ?_
    · obtain ⟨t, ht, hD⟩ := ho.mo p hp
      obtain ⟨u, hu, e⟩ := hs.ks t ht
      rw [← e] at hD
      have := (dmono_ok (z.algF hf) (q.mono hu) (ff.pos u hu) hD).2
      exact okP_get fun i hi => by have := this i hi; omega
    · rw [hl, ho.cf, map_tot hs q.canon (fun a' n => dT a.degrees (imgsT a) a' n x) (fun a' => dT_zero _ _ a' x)]
  · rw [if_pos (by omega)]
    exact h1 z
theorem p_DifferentialOfForm (a : Alg) (a1 : Vc.Form) (hg : GoodAlg a) (g1 : FitT a1.terms) (hb : LenAlg a) (b1 : a1.terms.length < 9223372036854775808) : f_laws_FnExactDifferentialOfForm a a1 (fun r => r = true) := by
  obtain ⟨f⟩ := a1
  dsimp only at g1 b1
  unfold f_laws_FnExactDifferentialOfForm
  refine m_szAlgebraB hb (fun r hr hr2 d1 d2 d3 => ?_) (fun r hr => by rw [if_pos hr])
  rw [if_neg (by omega)]
  refine m_szForm (by dsimp only; omega) (by omega) (fun q1 => ?_) (fun r hr => by rw [if_pos hr])
  dsimp only at q1
  rw [if_neg (by dsimp only; omega)]
  have lf : f.length ≤ 1048576 := by omega
  have hf := hg.fit d3
  refine m_toAlgebra d1 d2 d3 (m_toForm lf ?_)
  refine m_specD hf g1 lf (fun no => ?_) (fun z q l hl => ?_)
  · have hF : (⟨[]⟩ : Vc.Form).terms.length ≤ 400 := by simp
    have him : ∀ K : Vc.Form → Int → Prop, K ⟨[]⟩ 1 → f_impl_DifferentialOfForm a ⟨f⟩ K := fun K hK => m_implD hf g1 (fun _ => hK) (fun z q => absurd ⟨z, q⟩ no)
    generalize (⟨[]⟩ : Vc.Form) = F at hF him ⊢
    refine m_toAlgebra d1 d2 d3 (m_toForm lf (him _ ?_))
    refine same_Form (not_no (ne_no ?_))
    refine m_toAlgebra d1 d2 d3 (same_Algebra (not_no ?_))
    refine m_toForm lf (same_Form (not_no ?_))
    refine m_markAlgebraN (by omega) d1 d2 d3 fun x0 n0 n1 n2 => ?_
    refine m_markForm (by dsimp only; omega) fun x1 _ => ?_
    refine lt_no (by dsimp only; omega) ?_
    refine same_Form (not_no ?_)
    refine m_markForm (by dsimp only; omega) fun x3 hh => ?_
    refine hh _ (lt_no (by omega) (ne_no ?_))
    refine m_toAlgebra d1 d2 d3 (m_toForm lf (him _ (same_Form (not_no (ne_no ?_)))))
    exact hh _ (lt_no (by omega) (ne_no rfl))
  · have hF := formR_len l
    have him : ∀ K : Vc.Form → Int → Prop, K (formR l).1 (formR l).2 → f_impl_DifferentialOfForm a ⟨f⟩ K := fun K hK => m_implD hf g1 (fun no => absurd ⟨z, q⟩ no) (fun _ _ l' hc hl' => by
      rwa [canon_mod hc hl.can (fun x => by rw [hl', hl.cf])])
    generalize (formR l).1 = F at hF him ⊢
    generalize (formR l).2 = c at him ⊢
    refine m_toAlgebra d1 d2 d3 (m_toForm lf (him _ ?_))
    refine same_Form (not_no (ne_no ?_))
    refine m_toAlgebra d1 d2 d3 (same_Algebra (not_no ?_))
    refine m_toForm lf (same_Form (not_no ?_))
    refine m_markAlgebraN (by omega) d1 d2 d3 fun x0 n0 n1 n2 => ?_
    refine m_markForm (by dsimp only; omega) fun x1 _ => ?_
    refine lt_no (by dsimp only; omega) ?_
    refine same_Form (not_no ?_)
    refine m_markForm (by dsimp only; omega) fun x3 hh => ?_
    refine hh _ (lt_no (by omega) (ne_no ?_))
    refine m_toAlgebra d1 d2 d3 (m_toForm lf (him _ (same_Form (not_no (ne_no ?_)))))
    exact hh _ (lt_no (by omega) (ne_no rfl))
theorem pure_DifferentialOfForm (a : Alg) (a1 : Vc.Form) (hg : GoodAlg a) (g1 : ∀ x, x ∈ a1.terms → FitA .u8 x.mono ∧ Fit .i64 x.factor) (hb : LenAlg a) (b1 : a1.terms.length < 9223372036854775808) : f_laws_FnExactDifferentialOfForm a a1 (fun r => r = true) :=
  p_DifferentialOfForm a a1 hg (fun t ht => (g1 t ht).1) hb b1
end Go.Proofs.Ytgfmflmhcfkldaa
