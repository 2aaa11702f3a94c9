/- Plain laws: copies, sizes and comparisons of algebras. -/
import Derived.Test.YtaagfepgbofmlaaGreatVd3
set_option linter.unusedVariables false
set_option linter.unusedSimpArgs false
namespace Go.Proofs.YtaagfepgbofmlaaGreat
open Go Vc
def Big (n : Nat) : Prop := n < 9223372036854775808
structure LenAlg (a : Alg) : Prop where
  deg : Big a.degrees.length
  img : Big a.images.length
  trm : ∀ f, f ∈ a.images → Big f.terms.length
theorem alg_lens {x : Alg} {u v : Value} {fp : List Nat} {w : World} (h : TAlg.rep x [u, v] fp w) : LenAlg x := by
  have h1 := sl_max (alg_parts h).1
  have h2 := sl_max (alg_parts h).2
  refine ⟨by unfold Big; omega, by unfold Big; omega, fun f hf => ?_⟩
  obtain ⟨i, hi, rfl⟩ := List.getElem_of_mem hf
  obtain ⟨A, c, hv, cs, hl, hc, hr⟩ := sl_at (alg_parts h).2 i hi
  obtain ⟨z, rfl⟩ := List.length_eq_one_iff.1 (show cs.length = 1 from hl)
  have h3 := sl_max (form_parts hr)
  unfold Big; omega
theorem m_szFormB {f : Vc.Form} {n : Int} {K : Int → Prop} (hl : Big f.terms.length) (hn : 0 ≤ n ∧ n ≤ 1048576) (h1 : (f.terms.length : Int) ≤ n → K (n - f.terms.length)) (h2 : ∀ r, r < 0 → K r) : f_laws_szForm f n K := m_szForm (by unfold Big at hl; omega) hn h1 h2
theorem m_szFormS {l : List Vc.Form} {n : Int} {K : Int → Prop} (hl : Big l.length) (ht : ∀ f, f ∈ l → Big f.terms.length) (hn : 0 ≤ n ∧ n ≤ 1048576) (h1 : ∀ r, 0 ≤ r → r ≤ n → (l.length : Int) ≤ n → (∀ i, i < l.length → (l.getD i default).terms.length ≤ 1048576) → K r) (h2 : ∀ r, r < 0 → K r) : f_laws_szFormS l n K := by
  unfold f_laws_szFormS
  unfold Big at hl
  rw [i64_in _ (by omega)]
  split
  · exact h2 _ (by omega)
  · rename_i q
    refine forN_inv (fun i (s : Int) => 0 ≤ s ∧ s ≤ n ∧ ∀ j, j < i → (l.getD j default).terms.length ≤ 1048576) l.length ?_ ?_ _ _ _ (by omega) ⟨by omega, by omega, by intro j hj; omega⟩
    · intro i s next hi ⟨g1, g2, g3⟩ hn'
      refine m_szFormB (ht _ (getD_mem hi)) (by omega) (fun hle => ?_) (fun r hr => by rw [if_pos hr]; exact h2 _ (by omega))
      rw [if_neg (by omega)]
      refine hn' _ ⟨by omega, by omega, fun j hj => ?_⟩
      by_cases e : j = i
      · subst e; omega
      · exact g3 j (by omega)
    · intro s ⟨g1, g2, g3⟩
      exact h1 s g1 g2 (by omega) g3
theorem m_szAlgebra {a : Alg} {K : Int → Prop} (hb : LenAlg a) (h1 : ∀ r, 0 ≤ r → a.degrees.length ≤ 1048576 → a.images.length ≤ 1048576 → (∀ i, i < a.images.length → (a.images.getD i default).terms.length ≤ 1048576) → K r) (h2 : ∀ r, r < 0 → K r) : f_laws_szAlgebra a 1048576 K := by
  unfold f_laws_szAlgebra f_laws_szInt64S
  have hd := hb.deg
  unfold Big at hd
  rw [i64_in _ (by omega)]
  split
  · dsimp only; rw [if_pos (by omega)]; exact h2 _ (by omega)
  · dsimp only; rw [if_neg (by omega)]
    refine m_szFormS hb.img hb.trm (by omega) (fun r g1 g2 g3 g4 => ?_) (fun r hr => by rw [if_pos hr]; exact h2 _ (by omega))
    rw [if_neg (by omega)]
    exact h1 r g1 (by omega) (by omega) g4
theorem m_toFormS {l : List Vc.Form} {K : List Vc.Form → Prop} (hl : l.length ≤ 1048576) (ht : ∀ i, i < l.length → (l.getD i default).terms.length ≤ 1048576) (h : K l) : f_laws_toFormS l K := by
  unfold f_laws_toFormS
  refine ⟨by omega, ?_⟩
  refine forN_inv (fun i (s : List Vc.Form) => s.length = l.length ∧ ∀ j, j < i → s.getD j default = l.getD j default) l.length ?_ ?_ _ _ _ (by omega) ⟨by simp, by intro j hj; omega⟩
  · intro i s next hi ⟨h1, h2⟩ hn
    refine m_toForm (ht i hi) ⟨by omega, hn _ ⟨by simpa using h1, fun j hj => ?_⟩⟩
    rw [set_getD (by omega)]
    by_cases e : j = i
    · rw [if_pos e, e]
    · rw [if_neg e]; exact h2 j (by omega)
  · intro s ⟨h1, h2⟩
    have : s = l := List.ext_getElem h1 fun j hj hj' => by have := h2 j (by omega); simpa [List.getD, hj, hj'] using this
    rw [this]; exact h
theorem m_toAlgebra {a : Alg} {K : Alg → Prop} (h1 : a.degrees.length ≤ 1048576) (h2 : a.images.length ≤ 1048576) (h3 : ∀ i, i < a.images.length → (a.images.getD i default).terms.length ≤ 1048576) (h : K a) : f_laws_toAlgebra a K := by
  unfold f_laws_toAlgebra
  exact m_toInt64S h1 (m_toFormS h2 h3 h)
theorem same_Algebra {a : Alg} {K : Bool → Prop} (h : K true) : f_laws_eqAlgebra a a K := m_eqAlgebra (by simpa using h)
def GoodAlg (a : Alg) : Prop := (∀ x, x ∈ a.degrees → Fit .i64 x) ∧ ∀ f, f ∈ a.images → ∀ t, t ∈ f.terms → FitA .u8 t.mono ∧ Fit .i64 t.factor
theorem GoodAlg.fit {a : Alg} (h : GoodAlg a) (h3 : ∀ i, i < a.images.length → (a.images.getD i default).terms.length ≤ 1048576) : FitAlg a := fun i hi => ⟨fun t ht => (h.2 _ (getD_mem hi) t ht).1, h3 i hi⟩
end Go.Proofs.YtaagfepgbofmlaaGreat
