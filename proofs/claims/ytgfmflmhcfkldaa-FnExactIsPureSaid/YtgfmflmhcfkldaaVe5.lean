/- Plain law of row 10. -/
import Derived.Test.YtgfmflmhcfkldaaVe0
import Derived.Test.YtgfmflmhcfkldaaGL5
set_option linter.unusedVariables false
set_option linter.unusedSimpArgs false
namespace Go.Proofs.Ytgfmflmhcfkldaa
open Go Vc
/-- A pure algebra: images of even generators are nought, those of odd ones have even generators alone. -/
def PureAt (ds : List Int) (d : Int) (l : List Term) : Prop := (d % 2 = 0 → l = []) ∧ ∀ i, i < l.length → ∀ q, q < ds.length → ds.getD q default % 2 = 1 → (l.getD i default).mono.get q ≤ 0
def IsPureA (a : Alg) : Prop := ∀ i, i < a.images.length → PureAt a.degrees (a.degrees.getD i default) (a.images.getD i default).terms
theorem m_l06Has {l : List Term} {j : Int} {K : Bool → Prop} (hj : 0 ≤ j ∧ j < 8) (hl : l.length ≤ 1048576) (h1 : ∀ i, i < l.length → (l.getD i default).mono.get j.toNat > 0 → K true) (h2 : (∀ i, i < l.length → (l.getD i default).mono.get j.toNat ≤ 0) → K false) : f_spec_l06Has ⟨l⟩ j K := by
  unfold f_spec_l06Has
  dsimp only
  refine whileP_inv (fun (s : Int) => 0 ≤ s ∧ s ≤ l.length ∧ ∀ i : Nat, (i : Int) < s → (l.getD i default).mono.get j.toNat ≤ 0) (fun s => l.length - s.toNat) ?_ ⟨Int.le_refl _, by omega, fun i hi => by omega⟩
  rintro i next ⟨g1, g2, g3⟩ hn
  split
  · rename_i hi
    refine ⟨by omega, by omega, ?_⟩
    split
    · rename_i q; exact h1 i.toNat (by omega) q
    · rename_i q
      rw [i64_in _ (by omega)]
      refine hn _ ⟨by omega, by omega, fun k hk => ?_⟩ (by omega)
      by_cases e : k = i.toNat
      · subst e; omega
      · exact g3 k (by omega)
  · exact h2 fun i hi => g3 i (by omega)
theorem sp_pure {a : Alg} (hf : FitAlg a) (ok : OkAlg a) {i : Nat} (hi : i < a.images.length) (he : ∀ d : Int, d = a.degrees.getD i default → True) {K : Bool → Int → Prop} {nx : Prop} (hp0 : a.degrees.getD i default % 2 = 0 → (a.images.getD i default).terms = [])
    (h1 : PureAt a.degrees (a.degrees.getD i default) (a.images.getD i default).terms → nx) (h2 : ¬ IsPureA a → K false 0) :
    whileP (fun (s502 : Int) next503 => (if s502 < (a.degrees.length : Int) then ((0 ≤ s502 ∧ s502 < (a.degrees.length : Int)) ∧ (if Int.tmod (a.degrees.getD s502.toNat default) 2 ≠ 0 then ((0 ≤ (i : Int) ∧ (i : Int) < (a.images.length : Int)) ∧ f_spec_l06Has (a.images.getD i default) s502 (fun r531 => (if r531 = true then K false 0 else next503 (IntKind.i64.wrap (s502 + 1))))) else next503 (IntKind.i64.wrap (s502 + 1)))) else nx)) 0 := by
  have h8 := ok.deg.1
  refine whileP_inv (fun (s : Int) => 0 ≤ s ∧ s ≤ a.degrees.length ∧ ∀ q : Nat, (q : Int) < s → a.degrees.getD q default % 2 = 1 → ∀ k, k < (a.images.getD i default).terms.length → ((a.images.getD i default).terms.getD k default).mono.get q ≤ 0) (fun s => a.degrees.length - s.toNat) ?_ ⟨Int.le_refl _, by omega, fun i hi => by omega⟩
  rintro q next ⟨g1, g2, g3⟩ hn
  split
  · rename_i hq
    have hqn : q.toNat < a.degrees.length := by omega
    have hdq := ok.deg.2 q.toNat hqn
    have e : Int.tmod (a.degrees.getD q.toNat default) 2 = a.degrees.getD q.toNat default % 2 := Int.tmod_eq_emod_of_nonneg (by omega)
    rw [e, i64_in (q + 1) (by omega)]
    refine ⟨by omega, ?_⟩
    have hL : (⟨(a.images.getD i default).terms⟩ : Vc.Form) = a.images.getD i default := rfl
    rw [← hL]
    split
    · rename_i ho
      refine ⟨by omega, m_l06Has (by omega) (hf i hi).2 (fun k hk hpos => ?_) (fun hall => ?_)⟩
      · rw [if_pos rfl]
        refine h2 fun hpure => ?_
        have := (hpure i hi).2 k hk q.toNat hqn (by omega)
        omega
      · rw [if_neg (by simp)]
        refine hn _ ⟨by omega, by omega, fun z hz hzo => ?_⟩ (by omega)
        by_cases ez : z = q.toNat
        · subst ez; exact hall
        · exact g3 z (by omega) hzo
    · rename_i ho
      refine hn _ ⟨by omega, by omega, fun z hz hzo => ?_⟩ (by omega)
      by_cases ez : z = q.toNat
      · subst ez; omega
      · exact g3 z (by omega) hzo
  · rename_i hq
    exact h1 ⟨hp0, fun k hk z hz hzo => g3 z (by omega) hzo k hk⟩
theorem im_pure {a : Alg} (ok : OkAlg a) {i : Nat} (hi : i < a.images.length) {K : Bool → Int → Prop} {nx : Unit → Prop} (hfit : FitT (a.images.getD i default).terms) (hp0 : a.degrees.getD i default % 2 = 0 → (a.images.getD i default).terms = [])
    (h1 : PureAt a.degrees (a.degrees.getD i default) (a.images.getD i default).terms → nx ()) (h2 : ¬ IsPureA a → K false 0) :
    forN (fun i270 (s271 : Unit) next273 => forN (fun i295 (s296 : Unit) next297 => (if ((((a.images.getD i default).terms).getD i270 default).mono).get i295 > 0 then ((0 ≤ (i295 : Int) ∧ (i295 : Int) < (a.degrees.length : Int)) ∧ (if Int.tmod (a.degrees.getD i295 default) 2 = 1 then K false 0 else next297 ())) else next297 ())) (fun (s296 : Unit) => next273 ()) 8 0 ()) (fun (s271 : Unit) => nx ()) (((a.images.getD i default).terms).length) 0 () := by
  have h8 := ok.deg.1
  refine forN_inv (fun k (_ : Unit) => ∀ j, j < k → ∀ q, q < a.degrees.length → a.degrees.getD q default % 2 = 1 → ((a.images.getD i default).terms.getD j default).mono.get q ≤ 0) (a.images.getD i default).terms.length ?_ ?_ _ _ _ (by omega) (by intro j hj; omega)
  · intro k s next hk hI hn
    refine forN_inv (fun z (_ : Unit) => ∀ q, q < z → q < a.degrees.length → a.degrees.getD q default % 2 = 1 → ((a.images.getD i default).terms.getD k default).mono.get q ≤ 0) 8 ?_ ?_ _ _ _ (by omega) (by intro j hj; omega)
    · intro z s next' hz hJ hn'
      have go : (z < a.degrees.length → a.degrees.getD z default % 2 = 1 → ((a.images.getD i default).terms.getD k default).mono.get z ≤ 0) → next' () := fun hh => hn' _ fun q hq hql hqo => by
        by_cases e : q = z
        · subst e; exact hh hql hqo
        · exact hJ q (by omega) hql hqo
      split
      · rename_i hpos
        have hzl : z < a.degrees.length := by
          rcases Nat.lt_or_ge z a.degrees.length with q | q
          · exact q
          · have := ((ok.frm i hi).mono (getD_mem hk) z hz).2 q; omega
        have hdq := ok.deg.2 z hzl
        have e : Int.tmod (a.degrees.getD z default) 2 = a.degrees.getD z default % 2 := Int.tmod_eq_emod_of_nonneg (by omega)
        rw [e]
        refine ⟨by omega, ?_⟩
        split
        · rename_i ho
          refine h2 fun hpure => ?_
          have := (hpure i hi).2 k hk z hzl ho
          omega
        · rename_i ho
          exact go fun _ q => absurd q ho
      · rename_i hpos
        exact go fun _ _ => by omega
    · intro s hJ
      refine hn _ fun j hj q hq hqo => ?_
      by_cases e : j = k
      · subst e; exact hJ q (by omega) hq hqo
      · exact hI j (by omega) q hq hqo
  · intro s hI
    exact h1 ⟨hp0, hI⟩
theorem res_Pure {a : Alg} (hf : FitAlg a) : ∃ x y, (∀ K : Bool → Int → Prop, K x y → f_spec_IsPure a K) ∧ (∀ K : Bool → Int → Prop, K x y → f_impl_IsPure a K) := by
  by_cases ok : OkAlg a
  · have h8 := ok.deg.1
    have hlen := ok.len
    have spec : ∀ K : Bool → Int → Prop, (IsPureA a → K true 0) → (¬ IsPureA a → K false 0) → f_spec_IsPure a K := by
      intro K k1 k2
      unfold f_spec_IsPure
      refine m_l02Is hf (fun _ => ?_) (fun n => absurd ok n)
      rw [if_neg (by simp)]
      refine whileP_inv (fun (s : Int) => 0 ≤ s ∧ s ≤ a.degrees.length ∧ ∀ i : Nat, (i : Int) < s → PureAt a.degrees (a.degrees.getD i default) (a.images.getD i default).terms) (fun s => a.degrees.length - s.toNat) ?_ ⟨Int.le_refl _, by omega, fun i hi => by omega⟩
      rintro i next ⟨g1, g2, g3⟩ hn
      split
      · rename_i hi
        have hin : i.toNat < a.images.length := by omega
        have hdi := ok.deg.2 i.toNat (by omega)
        have e : Int.tmod (a.degrees.getD i.toNat default) 2 = a.degrees.getD i.toNat default % 2 := Int.tmod_eq_emod_of_nonneg (by omega)
        rw [e, i64_in (i + 1) (by omega)]
        have good : PureAt a.degrees (a.degrees.getD i.toNat default) (a.images.getD i.toNat default).terms → next (i + 1) := fun hp => hn _ ⟨by omega, by omega, fun j hj => by
          by_cases ej : j = i.toNat
          · subst ej; exact hp
          · exact g3 j (by omega)⟩ (by omega)
        refine ⟨by omega, ?_⟩
        have ei : ((i.toNat : Nat) : Int) = i := by omega
        split
        · rename_i q
          refine ⟨by omega, ?_⟩
          split
          · rename_i q2
            refine k2 fun hpure => ?_
            have := (hpure _ hin).1 q
            rw [this] at q2; simp at q2
          · rename_i q2
            have := sp_pure (K := K) hf ok hin (fun _ _ => trivial) (fun _ => List.length_eq_zero_iff.1 (by omega)) good k2
            rwa [ei] at this
        · rename_i q
          have := sp_pure (K := K) hf ok hin (fun _ _ => trivial) (fun z => absurd z q) good k2
          rwa [ei] at this
      · exact k1 fun i hi => g3 i (by omega)
    have impl : ∀ K : Bool → Int → Prop, (IsPureA a → K true 0) → (¬ IsPureA a → K false 0) → f_impl_IsPure a K := by
      intro K k1 k2
      unfold f_impl_IsPure
      refine m_algebraCode0 hf (fun _ => ?_) (fun n => absurd ok n)
      rw [if_neg (by omega)]
      refine forN_inv (fun i (_ : Unit) => ∀ j : Nat, j < i → PureAt a.degrees (a.degrees.getD j default) (a.images.getD j default).terms) a.images.length ?_ ?_ _ _ _ (by omega) (by intro j hj; omega)
      · intro i s next hi hI hn
        have hdi := ok.deg.2 i (by omega)
        have e : Int.tmod (a.degrees.getD i default) 2 = a.degrees.getD i default % 2 := Int.tmod_eq_emod_of_nonneg (by omega)
        rw [e]
        have good : PureAt a.degrees (a.degrees.getD i default) (a.images.getD i default).terms → next () := fun hp => hn _ fun j hj => by
          by_cases ej : j = i
          · subst ej; exact hp
          · exact hI j (by omega)
        refine ⟨by omega, ?_⟩
        split
        · rename_i q
          split
          · rename_i q2
            refine k2 fun hpure => ?_
            have := (hpure _ hi).1 q
            rw [this] at q2; simp at q2
          · rename_i q2
            exact im_pure ok hi (hf i hi).1 (fun _ => List.length_eq_zero_iff.1 (by omega)) good k2
        · rename_i q
          exact im_pure ok hi (hf i hi).1 (fun z => absurd z q) good k2
      · intro s hI
        exact k1 hI
    by_cases hp : IsPureA a
    · exact ⟨true, 0, fun K hK => spec K (fun _ => hK) (fun n => absurd hp n), fun K hK => impl K (fun _ => hK) (fun n => absurd hp n)⟩
    · exact ⟨false, 0, fun K hK => spec K (fun y => absurd y hp) (fun _ => hK), fun K hK => impl K (fun y => absurd y hp) (fun _ => hK)⟩
  · refine ⟨false, 1, fun K hK => ?_, fun K hK => ?_⟩
    · unfold f_spec_IsPure
      refine m_l02Is hf (fun y => absurd y ok) (fun _ => ?_)
      rw [if_pos (by simp)]; exact hK
    · unfold f_impl_IsPure
      refine m_algebraCode0 hf (fun y => absurd y ok) (fun _ => ?_)
      rw [if_pos (by omega)]; exact hK
theorem pure_IsPure (a : Alg) (hg : GoodAlg a) (hb : LenAlg a) : f_laws_FnExactIsPure a (fun r => r = true) := law_bool (K := fun r => r = true) rfl hb hg rfl res_Pure
end Go.Proofs.Ytgfmflmhcfkldaa
