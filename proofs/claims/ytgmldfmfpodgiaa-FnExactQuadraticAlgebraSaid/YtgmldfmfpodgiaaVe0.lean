/- Plain laws: copies, sizes and comparisons of algebras. -/
import Derived.Test.YtgmldfmfpodgiaaVd3
set_option linter.unusedVariables false
set_option linter.unusedSimpArgs false
namespace Go.Proofs.Ytgmldfmfpodgiaa
open Go Vc
def Big (n : Nat) : Prop := n < 9223372036854775808
structure LenAlg (a : Alg) : Prop where
  deg : Big a.degrees.length
  img : Big a.images.length
  trm : ∀ f, f ∈ a.images → Big f.terms.length
theorem alg_lens {x : Alg} {u v : Value} {fp : List Nat} {w : World} (h : TAlg.rep x [u, v] fp w) : LenAlg x := by
  have h1 := sl_max (alg_parts h).1
  have h2 := sl_max (alg_parts h).2
  refine ⟨by unfold Big; omega, by unfold Big; omega, fun f hf => ?_⟩
  obtain ⟨i, hi, rfl⟩ := List.getElem_of_mem hf
  obtain ⟨A, c, hv, cs, hl, hc, hr⟩ := sl_at (alg_parts h).2 i hi
  obtain ⟨z, rfl⟩ := List.length_eq_one_iff.1 (show cs.length = 1 from hl)
  have h3 := sl_max (form_parts hr)
  unfold Big; omega
theorem m_szFormB {f : Vc.Form} {n : Int} {K : Int → Prop} (hl : Big f.terms.length) (hn : 0 ≤ n ∧ n ≤ 1048576) (h1 : (f.terms.length : Int) ≤ n → K (n - f.terms.length)) (h2 : ∀ r, r < 0 → K r) : f_laws_szForm f n K := m_szForm (by unfold Big at hl; omega) hn h1 h2
theorem m_szFormS {l : List Vc.Form} {n : Int} {K : Int → Prop} (hl : Big l.length) (ht : ∀ f, f ∈ l → Big f.terms.length) (hn : 0 ≤ n ∧ n ≤ 1048576) (h1 : ∀ r, 0 ≤ r → r ≤ n → (l.length : Int) ≤ n → (∀ i, i < l.length → (l.getD i default).terms.length ≤ 1048576) → K r) (h2 : ∀ r, r < 0 → K r) : f_laws_szFormS l n K := by
  unfold f_laws_szFormS
  unfold Big at hl
  rw [i64_in _ (by omega)]
  split
  · exact h2 _ (by omega)
  · rename_i q
    refine forN_inv (fun i (s : Int) => 0 ≤ s ∧ s ≤ n ∧ ∀ j, j < i → (l.getD j default).terms.length ≤ 1048576) l.length ?_ ?_ _ _ _ (by omega) ⟨by omega, by omega, by intro j hj; omega⟩
    · intro i s next hi ⟨g1, g2, g3⟩ hn'
      refine m_szFormB (ht _ (getD_mem hi)) (by omega) (fun hle => ?_) (fun r hr => by rw [if_pos hr]; exact h2 _ (by omega))
      rw [if_neg (by omega)]
      refine hn' _ ⟨by omega, by omega, fun j hj => ?_⟩
      by_cases e : j = i
      · subst e; omega
      · exact g3 j (by omega)
    · intro s ⟨g1, g2, g3⟩
      exact h1 s g1 g2 (by omega) g3
theorem m_szAlgebra {a : Alg} {K : Int → Prop} (hb : LenAlg a) (h1 : ∀ r, 0 ≤ r → a.degrees.length ≤ 1048576 → a.images.length ≤ 1048576 → (∀ i, i < a.images.length → (a.images.getD i default).terms.length ≤ 1048576) → K r) (h2 : ∀ r, r < 0 → K r) : f_laws_szAlgebra a 1048576 K := by
  unfold f_laws_szAlgebra f_laws_szInt64S
  have hd := hb.deg
  unfold Big at hd
  rw [i64_in _ (by omega)]
  split
  · dsimp only; rw [if_pos (by omega)]; exact h2 _ (by omega)
  · dsimp only; rw [if_neg (by omega)]
    refine m_szFormS hb.img hb.trm (by omega) (fun r g1 g2 g3 g4 => ?_) (fun r hr => by rw [if_pos hr]; exact h2 _ (by omega))
    rw [if_neg (by omega)]
    exact h1 r g1 (by omega) (by omega) g4
theorem m_toFormS {l : List Vc.Form} {K : List Vc.Form → Prop} (hl : l.length ≤ 1048576) (ht : ∀ i, i < l.length → (l.getD i default).terms.length ≤ 1048576) (h : K l) : f_laws_toFormS l K := by
  unfold f_laws_toFormS
  refine ⟨by omega, ?_⟩
  refine forN_inv (fun i (s : List Vc.Form) => s.length = l.length ∧ ∀ j, j < i → s.getD j default = l.getD j default) l.length ?_ ?_ _ _ _ (by omega) ⟨by simp, by intro j hj; omega⟩
  · intro i s next hi ⟨h1, h2⟩ hn
    refine m_toForm (ht i hi) ⟨by omega, hn _ ⟨by simpa using h1, fun j hj => ?_⟩⟩
    rw [set_getD (by omega)]
    by_cases e : j = i
    · rw [if_pos e, e]
    · rw [if_neg e]; exact h2 j (by omega)
  · intro s ⟨h1, h2⟩
    have : s = l := List.ext_getElem h1 fun j hj hj' => by have := h2 j (by omega); simpa [List.getD, hj, hj'] using this
    rw [this]; exact h
theorem m_toAlgebra {a : Alg} {K : Alg → Prop} (h1 : a.degrees.length ≤ 1048576) (h2 : a.images.length ≤ 1048576) (h3 : ∀ i, i < a.images.length → (a.images.getD i default).terms.length ≤ 1048576) (h : K a) : f_laws_toAlgebra a K := by
  unfold f_laws_toAlgebra
  exact m_toInt64S h1 (m_toFormS h2 h3 h)
theorem same_Algebra {a : Alg} {K : Bool → Prop} (h : K true) : f_laws_eqAlgebra a a K := m_eqAlgebra (by simpa using h)
theorem neb_no {b : Bool} {A B : Prop} (h : B) : if b ≠ b then A else B := by simpa using h
def GoodAlg (a : Alg) : Prop := (∀ x, x ∈ a.degrees → Fit .i64 x) ∧ ∀ f, f ∈ a.images → ∀ t, t ∈ f.terms → FitA .u8 t.mono ∧ Fit .i64 t.factor
theorem GoodAlg.fit {a : Alg} (h : GoodAlg a) (h3 : ∀ i, i < a.images.length → (a.images.getD i default).terms.length ≤ 1048576) : FitAlg a := fun i hi => ⟨fun t ht => (h.2 _ (getD_mem hi) t ht).1, h3 i hi⟩
/-- The law of a function of an algebra that gives a number and a code. -/
theorem law_int {a : Alg} {L : Prop} {K : Bool → Prop} (hK : K true) {spec impl : Alg → (Int → Int → Prop) → Prop} (hb : LenAlg a) (hg : GoodAlg a)
    (hL : L = f_laws_szAlgebra a 1048576 (fun r11 => (if r11 < 0 then K true else f_laws_toAlgebra a (fun r17 => spec r17 (fun r36 r37 => f_laws_toAlgebra a (fun r42 => impl r42 (fun r65 r66 => (if r65 ≠ r36 then K false else (if r66 ≠ r37 then K false else f_laws_toAlgebra a (fun r76 => f_laws_eqAlgebra r42 r76 (fun r95 => (if ¬ (r95 = true) then K false else K true))))))))))))
    (hs : FitAlg a → ∃ x y, (∀ K : Int → Int → Prop, K x y → spec a K) ∧ (∀ K : Int → Int → Prop, K x y → impl a K)) : L := by
  rw [hL]
  refine m_szAlgebra hb (fun r hr d1 d2 d3 => ?_) (fun r hr => by rw [if_pos hr]; exact hK)
  rw [if_neg (by omega)]
  obtain ⟨x, y, s1, s2⟩ := hs (hg.fit d3)
  refine m_toAlgebra d1 d2 d3 (s1 _ (m_toAlgebra d1 d2 d3 (s2 _ (ne_no (ne_no (m_toAlgebra d1 d2 d3 (same_Algebra (not_no hK))))))))
theorem law_bool {a : Alg} {L : Prop} {K : Bool → Prop} (hK : K true) {spec impl : Alg → (Bool → Int → Prop) → Prop} (hb : LenAlg a) (hg : GoodAlg a)
    (hL : L = f_laws_szAlgebra a 1048576 (fun r11 => (if r11 < 0 then K true else f_laws_toAlgebra a (fun r17 => spec r17 (fun r36 r37 => f_laws_toAlgebra a (fun r42 => impl r42 (fun r65 r66 => (if r65 ≠ r36 then K false else (if r66 ≠ r37 then K false else f_laws_toAlgebra a (fun r76 => f_laws_eqAlgebra r42 r76 (fun r95 => (if ¬ (r95 = true) then K false else K true))))))))))))
    (hs : FitAlg a → ∃ x y, (∀ K : Bool → Int → Prop, K x y → spec a K) ∧ (∀ K : Bool → Int → Prop, K x y → impl a K)) : L := by
  rw [hL]
  refine m_szAlgebra hb (fun r hr d1 d2 d3 => ?_) (fun r hr => by rw [if_pos hr]; exact hK)
  rw [if_neg (by omega)]
  obtain ⟨x, y, s1, s2⟩ := hs (hg.fit d3)
  refine m_toAlgebra d1 d2 d3 (s1 _ (m_toAlgebra d1 d2 d3 (s2 _ (neb_no (ne_no (m_toAlgebra d1 d2 d3 (same_Algebra (not_no hK))))))))
end Go.Proofs.Ytgmldfmfpodgiaa
