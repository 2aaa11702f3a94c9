/- Plain laws: forms alike; marks and what is held. -/
import Derived.Test.YtaagfepgbofmlaaVf1
set_option linter.unusedVariables false
set_option linter.unusedSimpArgs false
namespace Go.Proofs.Ytaagfepgbofmlaa
open Go Vc
theorem m_eqTerm {a b : Term} {K : Bool → Prop} (h : K (decide (a = b))) : f_laws_eqTerm a b K := by
  unfold f_laws_eqTerm
  refine m_eqMonomial ?_
  cases a with | mk m x => cases b with | mk n y =>
  by_cases h1 : m = n
  · by_cases h2 : x = y
    · simpa [h1, h2] using h
    · simpa [h1, h2] using h
  · simpa [h1] using h
theorem eq_rows {α : Type} [DecidableEq α] [Inhabited α] {a b : List α} {K : Bool → Prop} {eq : α → α → (Bool → Prop) → Prop} (he : ∀ x y K, K (decide (x = y)) → eq x y K) (h : K (decide (a = b))) :
    (if (a.length : Int) ≠ (b.length : Int) then K false else forN (fun i (s : Unit) next => ((0 ≤ (i : Int) ∧ (i : Int) < (b.length : Int)) ∧ eq (a.getD i default) (b.getD i default) (fun r => (if ¬ (r = true) then K false else next ())))) (fun (s : Unit) => K true) a.length 0 ()) := by
  split
  · rename_i h1
    have : ¬ a = b := fun e => h1 (by rw [e])
    simpa [this] using h
  · rename_i h1
    have hl : a.length = b.length := by omega
    refine forN_inv (fun i _ => ∀ j, j < i → a.getD j default = b.getD j default) a.length ?_ ?_ _ _ _ (by omega) (by intro j hj; omega)
    · intro i s next hi hI hn
      refine ⟨by omega, he _ _ _ ?_⟩
      split
      · rename_i h1
        have : ¬ a = b := fun e => h1 (by rw [e]; simp)
        simpa [this] using h
      · rename_i h1
        refine hn _ fun j hj => ?_
        by_cases hji : j = i
        · subst hji; simpa only [decide_eq_true_eq, Decidable.not_not] using h1
        · exact hI j (by omega)
    · intro s hI
      have : a = b := by
        apply List.ext_getElem hl
        intro i h1 h2
        have := hI i h1
        simpa [List.getD, h1, h2] using this
      simpa [this] using h
theorem m_eqTermS {a b : List Term} {K : Bool → Prop} (h : K (decide (a = b))) : f_laws_eqTermS a b K := eq_rows (fun _ _ _ h => m_eqTerm h) h
theorem m_eqForm {a b : Vc.Form} {K : Bool → Prop} (h : K (decide (a = b))) : f_laws_eqForm a b K := by
  unfold f_laws_eqForm
  refine m_eqTermS ?_
  cases a with | mk s => cases b with | mk t =>
  by_cases h1 : s = t
  · simpa [h1] using h
  · simpa [h1] using h
theorem m_eqFormS {a b : List Vc.Form} {K : Bool → Prop} (h : K (decide (a = b))) : f_laws_eqFormS a b K := eq_rows (fun _ _ _ h => m_eqForm h) h
theorem m_eqAlgebra {a b : Alg} {K : Bool → Prop} (h : K (decide (a = b))) : f_laws_eqAlgebra a b K := by
  unfold f_laws_eqAlgebra
  refine m_eqInt64S ?_
  cases a with | mk s t => cases b with | mk u v =>
  dsimp only
  by_cases h1 : s = u
  · simp only [h1, decide_true, not_true_eq_false, if_false]
    refine m_eqFormS ?_
    by_cases h2 : t = v
    · simpa [h1, h2] using h
    · simpa [h2] using h
  · simpa [h1] using h
/-! ### Marks -/
theorem set_getD {α : Type} [Inhabited α] {xs : List α} {i j : Nat} {x : α} (hi : i < xs.length) : (xs.set i x).getD j default = if j = i then x else xs.getD j default := by
  by_cases h : j = i
  · subst h; simp [List.getD, hi]
  · simp [List.getD, List.getElem?_set_ne (fun e => h e.symm), h]
end Go.Proofs.Ytaagfepgbofmlaa
