/- Plain laws: forms alike; marks and what is held. -/
import Derived.Test.YtaagfepgbofmlaaGreatVf1
set_option linter.unusedVariables false
set_option linter.unusedSimpArgs false
namespace Go.Proofs.YtaagfepgbofmlaaGreat
open Go Vc
theorem m_eqTerm {a b : Term} {K : Bool → Prop} (h : K (decide (a = b))) : f_laws_eqTerm a b K := by
  unfold f_laws_eqTerm
  refine m_eqMonomial ?_
  cases a with | mk m x => cases b with | mk n y =>
  by_cases h1 : m = n
  · by_cases h2 : x = y
    · simpa [h1, h2] using h
    · simpa [h1, h2] using h
  · simpa [h1] using h
theorem eq_rows {α : Type} [DecidableEq α] [Inhabited α] {a b : List α} {K : Bool → Prop} {eq : α → α → (Bool → Prop) → Prop} (he : ∀ x y K, K (decide (x = y)) → eq x y K) (h : K (decide (a = b))) :
    (if (a.length : Int) ≠ (b.length : Int) then K false else forN (fun i (s : Unit) next => ((0 ≤ (i : Int) ∧ (i : Int) < (b.length : Int)) ∧ eq (a.getD i default) (b.getD i default) (fun r => (if ¬ (r = true) then K false else next ())))) (fun (s : Unit) => K true) a.length 0 ()) := by
  split
  · rename_i h1
    have : ¬ a = b := fun e => h1 (by rw [e])
    simpa [this] using h
  · rename_i h1
    have hl : a.length = b.length := by omega
    refine forN_inv (fun i _ => ∀ j, j < i → a.getD j default = b.getD j default) a.length ?_ ?_ _ _ _ (by omega) (by intro j hj; omega)
    · intro i s next hi hI hn
      refine ⟨by omega, he _ _ _ ?_⟩
      split
      · rename_i h1
        have : ¬ a = b := fun e => h1 (by rw [e]; simp)
        simpa [this] using h
      · rename_i h1
        refine hn _ fun j hj => ?_
        by_cases hji : j = i
        · subst hji; simpa only [decide_eq_true_eq, Decidable.not_not] using h1
        · exact hI j (by omega)
    · intro s hI
      have : a = b := by
        apply List.ext_getElem hl
        intro i h1 h2
        have := hI i h1
        simpa [List.getD, h1, h2] using this
      simpa [this] using h
theorem m_eqTermS {a b : List Term} {K : Bool → Prop} (h : K (decide (a = b))) : f_laws_eqTermS a b K := eq_rows (fun _ _ _ h => m_eqTerm h) h
theorem m_eqForm {a b : Vc.Form} {K : Bool → Prop} (h : K (decide (a = b))) : f_laws_eqForm a b K := by
  unfold f_laws_eqForm
  refine m_eqTermS ?_
  cases a with | mk s => cases b with | mk t =>
  by_cases h1 : s = t
  · simpa [h1] using h
  · simpa [h1] using h
theorem m_eqFormS {a b : List Vc.Form} {K : Bool → Prop} (h : K (decide (a = b))) : f_laws_eqFormS a b K := eq_rows (fun _ _ _ h => m_eqForm h) h
theorem m_eqAlgebra {a b : Alg} {K : Bool → Prop} (h : K (decide (a = b))) : f_laws_eqAlgebra a b K := by
  unfold f_laws_eqAlgebra
  refine m_eqInt64S ?_
  cases a with | mk s t => cases b with | mk u v =>
  dsimp only
  by_cases h1 : s = u
  · simp only [h1, decide_true, not_true_eq_false, if_false]
    refine m_eqFormS ?_
    by_cases h2 : t = v
    · simpa [h1, h2] using h
    · simpa [h2] using h
  · simpa [h1] using h
/-! ### Marks -/
theorem set_getD {α : Type} [Inhabited α] {xs : List α} {i j : Nat} {x : α} (hi : i < xs.length) : (xs.set i x).getD j default = if j = i then x else xs.getD j default := by
  by_cases h : j = i
  · subst h; simp [List.getD, hi]
  · simp [List.getD, List.getElem?_set_ne (fun e => h e.symm), h]
def TermAt (t : Term) (c : Int) : Prop := (∀ q, q < 8 → t.mono.get q = IntKind.u8.wrap (c + q)) ∧ t.factor = c + 8
theorem held_terms {x : List Term} {m : Int} {K' : Int → Prop} (hm : 0 ≤ m ∧ m + 9 * x.length ≤ 4611686018427387904) (h : ∀ j : Nat, j < x.length → TermAt (x.getD j default) (m + 9 * j)) (hK : K' (m + 9 * x.length)) : f_laws_heldTermS x m K' := by
  unfold f_laws_heldTermS
  refine forN_inv (fun i (s : Int) => s = m + 9 * i) x.length ?_ ?_ _ _ _ (by omega) (by simp)
  · intro i s next hi hs hn
    obtain ⟨g1, g2⟩ := h i hi
    refine forN_inv (fun q (t : Int) => t = s + q) 8 ?_ ?_ _ _ _ (by omega) (by simp)
    · intro q t next' hq ht hn'
      rw [if_neg (by rw [g1 q hq, ht, hs]; simp), i64_in (t + 1) (by omega)]
      exact hn' _ (by omega)
    · intro t ht
      rw [if_neg (by rw [g2, ht, hs]; omega), i64_in (t + 1) (by omega)]
      exact hn _ (by omega)
  · intro s hs
    rw [hs]; exact hK
theorem m_markTermS {l : List Term} {m : Int} {K : Int → List Term → Prop} (hm : 0 ≤ m ∧ m + 9 * l.length ≤ 4611686018427387904) (h : ∀ x', x'.length = l.length → (∀ j : Nat, j < x'.length → TermAt (x'.getD j default) (m + 9 * j)) → K (m + 9 * l.length) x') : f_laws_markTermS l m K := by
  unfold f_laws_markTermS
  refine whileP_inv (fun (s : List Term × Int × Int) => s.1.length = l.length ∧ (0 ≤ s.2.2 ∧ s.2.2 ≤ l.length) ∧ s.2.1 = m + 9 * s.2.2 ∧ ∀ j : Nat, (j : Int) < s.2.2 → TermAt (s.1.getD j default) (m + 9 * j)) (fun s => l.length - s.2.2.toNat) ?_ ⟨rfl, by dsimp only; omega, by simp, by intro j hj; dsimp only at hj; omega⟩
  rintro ⟨x, c, i⟩ next ⟨h1, h2, h3, h4⟩ hn
  dsimp only at h1 h2 h3 h4 ⊢
  split
  · rename_i hi
    refine forN_inv (fun q (s : List Term × Int) => s.1.length = l.length ∧ s.2 = c + q ∧ (∀ j : Nat, (j : Int) < i → TermAt (s.1.getD j default) (m + 9 * j)) ∧ ∀ r, r < q → (s.1.getD i.toNat default).mono.get r = IntKind.u8.wrap (c + r)) 8 ?_ ?_ _ _ _ (by omega) ⟨h1, by simp, h4, by intro r hr; omega⟩
    · rintro q ⟨y, d⟩ next' hq ⟨g1, g2, g3, g4⟩ hn'
      dsimp only at g1 g2 g3 g4 ⊢
      refine ⟨by omega, ?_⟩
      rw [i64_in (d + 1) (by omega)]
      refine hn' _ ⟨by simpa using g1, by dsimp only; omega, fun j hj => ?_, fun r hr => ?_⟩
      · dsimp only; rw [set_getD (by omega), if_neg (by omega)]; exact g3 j hj
      · dsimp only; rw [set_getD (by omega), if_pos rfl]
        dsimp only
        rw [A8.get_set hq]
        split
        · rename_i e; rw [g2, e]
        · exact g4 r (by omega)
    · rintro ⟨y, d⟩ ⟨g1, g2, g3, g4⟩
      dsimp only at g1 g2 g3 g4 ⊢
      refine ⟨by omega, ?_⟩
      rw [i64_in (d + 1) (by omega), i64_in (i + 1) (by omega)]
      refine hn _ ⟨by simpa using g1, by dsimp only; omega, by dsimp only; omega, fun j hj => ?_⟩ (by dsimp only; omega)
      dsimp only at hj ⊢
      rw [set_getD (by omega)]
      split
      · rename_i e
        have hc : c = m + 9 * (j : Int) := by rw [h3]; omega
        exact ⟨fun q hq => by dsimp only; rw [g4 q hq, hc], by dsimp only; omega⟩
      · exact g3 j (by omega)
  · rename_i hi
    have hc : c = m + 9 * l.length := by rw [h3]; omega
    rw [hc]
    exact h x h1 fun j hj => h4 j (by omega)
end Go.Proofs.YtaagfepgbofmlaaGreat
