/- Plain law of row 12. -/
import Derived.Test.YtjngkbalaipdbaaVp5
import Derived.Test.YtjngkbalaipdbaaGD
set_option linter.unusedVariables false
set_option linter.unusedSimpArgs false
namespace Go.Proofs.Ytjngkbalaipdbaa
open Go Vc
theorem m_l02Copy0 {f : Vc.Form} {K : Vc.Form → Prop} (hl : f.terms.length ≤ 1000000) (h : K f) : f_spec_l02Copy f 0 K := by
  unfold f_spec_l02Copy
  refine whileP_inv (fun (s : List Term × Int) => (0 ≤ s.2 ∧ s.2 ≤ f.terms.length) ∧ s.1 = f.terms.take s.2.toNat) (fun s => f.terms.length - s.2.toNat) ?_ ⟨by dsimp only; omega, rfl⟩
  rintro ⟨s, i⟩ next ⟨h1, h2⟩ hn
  dsimp only at h1 h2 hn ⊢
  split
  · rename_i hi
    refine whileP_inv (fun (t : A8 × Int) => (0 ≤ t.2 ∧ t.2 ≤ 8) ∧ ∀ j, j < 8 → t.1.get j = if (j : Int) < t.2 then (f.terms.getD i.toNat default).mono.get j else 0) (fun t => 8 - t.2.toNat) ?_ ⟨by dsimp only; omega, fun j hj => by dsimp only; rw [if_neg (by omega), A8.get_zero]⟩
    rintro ⟨x, j⟩ nx ⟨k1, k2⟩ hx
    dsimp only at k1 k2 hx ⊢
    rw [Int.add_zero, i64_in j (by omega), i64_in (j + 1) (by omega), i64_in (i + 1) (by omega)]
    split
    · rename_i hj
      refine ⟨⟨h1.1, hi⟩, ⟨k1.1, hj⟩, ⟨k1.1, hj⟩, hx _ ⟨by dsimp only; omega, fun q hq => ?_⟩ (by dsimp only; omega)⟩
      dsimp only
      rw [A8.get_set (by omega), k2 q hq]
      split
      · rename_i e; subst e; rw [if_pos (by omega)]
      · rename_i e
        by_cases c : (q : Int) < j
        · rw [if_pos c, if_pos (by omega)]
        · rw [if_neg c, if_neg (by omega)]
    · rename_i hj
      refine ⟨⟨h1.1, hi⟩, by rw [h2]; unfold Room; simp only [List.length_take]; omega, hn _ ⟨by dsimp only; omega, ?_⟩ (by dsimp only; omega)⟩
      dsimp only
      have hin : i.toNat < f.terms.length := by omega
      have hxe : x = (f.terms.getD i.toNat default).mono := by
        refine A8.ext_get fun q hq => ?_
        rw [k2 q hq, if_pos (by omega)]
      rw [hxe, show (i + 1).toNat = i.toNat + 1 by omega, List.take_add_one, h2, List.getElem?_eq_getElem hin]
      refine congrArg (List.take i.toNat f.terms ++ ·) ?_
      simp [List.getD, List.getElem?_eq_getElem hin]
  · rename_i hi
    rw [h2, List.take_of_length_le (by omega)]; exact h
theorem m_l02Own {a : Alg} {K : Alg → Prop} (h1 : a.degrees.length ≤ 1000000) (h2 : a.images.length ≤ 1000000) (h3 : ∀ i, i < a.images.length → (a.images.getD i default).terms.length ≤ 1000000) (h : K a) : f_spec_l02Own a K := by
  unfold f_spec_l02Own f_spec_l01Own
  refine ⟨by unfold Room; omega, ?_⟩
  refine whileP_inv (fun (s : List Vc.Form × Int) => (0 ≤ s.2 ∧ s.2 ≤ a.images.length) ∧ s.1 = a.images.take s.2.toNat) (fun s => a.images.length - s.2.toNat) ?_ ⟨by dsimp only; omega, rfl⟩
  rintro ⟨s, i⟩ next ⟨k1, k2⟩ hn
  dsimp only at k1 k2 hn ⊢
  split
  · rename_i hi
    have hin : i.toNat < a.images.length := by omega
    refine ⟨⟨k1.1, hi⟩, m_l02Copy0 (h3 _ hin) ⟨by rw [k2]; unfold Room; simp only [List.length_take]; omega, ?_⟩⟩
    rw [i64_in (i + 1) (by omega)]
    refine hn _ ⟨by dsimp only; omega, ?_⟩ (by dsimp only; omega)
    dsimp only
    rw [show (i + 1).toNat = i.toNat + 1 by omega, List.take_add_one, k2, List.getElem?_eq_getElem hin]
    simp [List.getD, List.getElem?_eq_getElem hin]
  · rename_i hi
    rw [k2, List.take_of_length_le (by omega)]; exact h
theorem m_markAlgebraM {a : Alg} {m : Int} {K : Int → Alg → Prop} (hm : 0 ≤ m ∧ m ≤ 1000000000000) (hl : a.degrees.length ≤ 1000 ∧ a.images.length ≤ 1000 ∧ cnt a.images ≤ 1000) (h : ∀ x' n, (∀ K' : Int → Prop, K' n → f_laws_heldAlgebra x' m K') → 0 ≤ n → n ≤ m + 10000 → K n x') : f_laws_markAlgebra a m K := by
  unfold f_laws_markAlgebra
  refine m_markInt64S (by omega) fun d hd hh => ?_
  refine m_markForms (by omega) (fun fs n h0 hn hf => ?_) (by omega)
  refine h _ n (fun K' hK' => ?_) h0 (by omega)
  unfold f_laws_heldAlgebra
  refine hh _ ?_
  rw [if_neg (by omega)]
  refine hf _ ?_
  rw [if_neg (by omega)]
  exact hK'
theorem m_eqDesk {a b : Vc.Desk} {K : Bool → Prop} (h : a = b → K true) (e : a = b) : f_laws_eqDesk a b K := by
  subst e
  unfold f_laws_eqDesk
  refine m_eqAlgebra ?_
  simp only [decide_true, not_true_eq_false, if_false]
  refine m_eqAlgebra ?_
  simp only [decide_true, not_true_eq_false, if_false]
  refine m_eqForm ?_
  simp only [decide_true, not_true_eq_false, if_false]
  exact h rfl
theorem m_markDesk {a : Alg} {K : Int → Vc.Desk → Prop} (hl : a.degrees.length ≤ 1000 ∧ a.images.length ≤ 1000 ∧ cnt a.images ≤ 1000) (h : ∀ x' n, (∀ K' : Int → Prop, K' n → f_laws_heldDesk x' 1 K') → 0 ≤ n → K n x') : f_laws_markDesk ⟨a, a, ⟨[]⟩⟩ 1 K := by
  unfold f_laws_markDesk
  refine m_markAlgebraM (by omega) hl fun x n hx h0 h1 => ?_
  refine m_markAlgebraM (by omega) hl fun y q hy k0 k1 => ?_
  unfold f_laws_markForm
  refine m_markTermS (by dsimp only [List.length_nil]; omega) fun z hz ht => ?_
  dsimp only [List.length_nil] at hz ⊢
  refine h _ _ (fun K' hK' => ?_) (by omega)
  unfold f_laws_heldDesk
  refine hx _ ?_
  rw [if_neg (by omega)]
  refine hy _ ?_
  rw [if_neg (by omega)]
  unfold f_laws_heldForm
  have hz' : z.length = 0 := hz
  refine held_terms (by dsimp only; omega) ht ?_
  dsimp only
  rw [hz', if_neg (by omega), if_neg (by omega)]
  exact hK'
def deskR : Vc.Desk := ⟨(sphereR 2).1, (sphereR 2).1, ⟨[]⟩⟩
theorem sphere2 : (sphereR 2).1 = twoGen 2 3 2 := by decide
theorem m_specDesk {K : Vc.Desk → Prop} (h : K deskR) : f_spec_NewDesk K := by
  unfold f_spec_NewDesk f_spec_l11New
  refine m_specSphere ?_
  refine m_l02Own ?_ ?_ ?_ h <;> rw [sphere2]
  · simp [twoGen]
  · simp [twoGen]
  · intro i hi
    simp only [twoGen, List.length_cons, List.length_nil] at hi
    match i, hi with
    | 0, _ => simp [twoGen]
    | 1, _ => simp [twoGen]
theorem m_implDesk {K : Vc.Desk → Prop} (h : K deskR) : f_impl_NewDesk K := by
  unfold f_impl_NewDesk
  exact m_implSphere (show (Lit.int .i64 2).wf = true by decide) (m_implSphere (show (Lit.int .i64 2).wf = true by decide) h)
theorem p_NewDesk : f_laws_FnExactNewDesk (fun r => r = true) := by
  unfold f_laws_FnExactNewDesk
  refine m_specDesk (m_implDesk (m_eqDesk (fun _ => ?_) rfl))
  rw [if_neg (by simp)]
  refine m_markDesk (by rw [sphere2]; simp [twoGen, cnt]) fun x' n hh hn => ?_
  refine hh _ ?_
  rw [if_neg (by omega), if_neg (by simp)]
  refine m_implDesk (m_eqDesk (fun _ => ?_) rfl)
  rw [if_neg (by simp)]
  refine hh _ ?_
  rw [if_neg (by omega), if_neg (by simp)]
end Go.Proofs.Ytjngkbalaipdbaa
