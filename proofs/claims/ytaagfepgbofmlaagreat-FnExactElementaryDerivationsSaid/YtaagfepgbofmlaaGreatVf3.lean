/- Plain laws: sums, multiples and products of forms; copies and marks of a form. -/
import Derived.Test.YtaagfepgbofmlaaGreatVf2
import Derived.Test.YtaagfepgbofmlaaGreatVp4
set_option linter.unusedVariables false
set_option linter.unusedSimpArgs false
namespace Go.Proofs.YtaagfepgbofmlaaGreat
open Go Vc
theorem m_toTerm {t : Term} {K : Term → Prop} (h : K t) : f_laws_toTerm t K := by
  unfold f_laws_toTerm
  exact m_toMonomial h
theorem m_toTermS {l : List Term} {K : List Term → Prop} (hl : l.length ≤ 1048576) (h : K l) : f_laws_toTermS l K := by
  unfold f_laws_toTermS
  refine ⟨by omega, ?_⟩
  refine forN_inv (fun i (s : List Term) => s.length = l.length ∧ ∀ j, j < i → s.getD j default = l.getD j default) l.length ?_ ?_ _ _ _ (by omega) ⟨by simp, by intro j hj; omega⟩
  · intro i s next hi ⟨h1, h2⟩ hn
    refine m_toTerm ⟨by omega, hn _ ⟨by simpa using h1, fun j hj => ?_⟩⟩
    rw [set_getD (by omega)]
    by_cases e : j = i
    · rw [if_pos e, e]
    · rw [if_neg e]; exact h2 j (by omega)
  · intro s ⟨h1, h2⟩
    have : s = l := List.ext_getElem h1 fun j hj hj' => by have := h2 j (by omega); simpa [List.getD, hj, hj'] using this
    rw [this]; exact h
theorem m_toForm {f : Vc.Form} {K : Vc.Form → Prop} (hl : f.terms.length ≤ 1048576) (h : K f) : f_laws_toForm f K := by
  unfold f_laws_toForm
  exact m_toTermS hl h
theorem m_szForm {f : Vc.Form} {n : Int} {K : Int → Prop} (hl : (f.terms.length : Int) ≤ 9223372036854775807) (hn : 0 ≤ n ∧ n ≤ 1048576) (h1 : (f.terms.length : Int) ≤ n → K (n - f.terms.length)) (h2 : ∀ r, r < 0 → K r) : f_laws_szForm f n K := by
  unfold f_laws_szForm f_laws_szTermS
  rw [i64_in _ (by omega)]
  split
  · exact h2 _ (by omega)
  · dsimp only
    rw [if_neg (by assumption)]
    exact h1 (by omega)
theorem FitT.map {l : List Term} {m : List (A8 × Int)} (h : FitT l) (hm : IsMap l m) : ∀ p, p ∈ m → ∀ i, i < 8 → 0 ≤ p.1.get i ∧ p.1.get i ≤ 255 := fun p hp => by
  obtain ⟨t, ht, e⟩ := hm.ks p hp
  rw [← e]; exact h.pos t ht
theorem monoLow {ds : List Int} {a : A8} (h : OkMono ds a) : Low a := fun i hi => by
  by_cases hl : i < ds.length
  · exact ((h i hi).1 hl).1
  · rw [(h i hi).2 (by omega)]; omega
theorem m_when {b : Bool} {c : Int} {K : Int → Prop} (h : K (if b = true then c else 0)) : f_impl_when b c K := by
  unfold f_impl_when
  split
  · rename_i q; rwa [if_pos q] at h
  · rename_i q; rwa [if_neg q] at h
/-! ### Steps of laws -/
theorem not_no {A B : Prop} (h : B) : if ¬ (true = true) then A else B := by simpa using h
theorem ne_no {c : Int} {A B : Prop} (h : B) : if c ≠ c then A else B := by simpa using h
theorem lt_no {c : Int} {A B : Prop} (hc : 0 ≤ c) (h : B) : if c < 0 then A else B := by rw [if_neg (by omega)]; exact h
end Go.Proofs.YtaagfepgbofmlaaGreat
