/- Plain laws: sums, multiples and products of forms; copies and marks of a form. -/
import Derived.Test.YtgmldfmfpodgiaaVf2
import Derived.Test.YtgmldfmfpodgiaaVp4
set_option linter.unusedVariables false
set_option linter.unusedSimpArgs false
namespace Go.Proofs.Ytgmldfmfpodgiaa
open Go Vc
theorem m_toTerm {t : Term} {K : Term → Prop} (h : K t) : f_laws_toTerm t K := by
  unfold f_laws_toTerm
  exact m_toMonomial h
theorem m_toTermS {l : List Term} {K : List Term → Prop} (hl : l.length ≤ 1048576) (h : K l) : f_laws_toTermS l K := by
  unfold f_laws_toTermS
  refine ⟨by omega, ?_⟩
  refine forN_inv (fun i (s : List Term) => s.length = l.length ∧ ∀ j, j < i → s.getD j default = l.getD j default) l.length ?_ ?_ _ _ _ (by omega) ⟨by simp, by intro j hj; omega⟩
  · intro i s next hi ⟨h1, h2⟩ hn
    refine m_toTerm ⟨by omega, hn _ ⟨by simpa using h1, fun j hj => ?_⟩⟩
    rw [set_getD (by omega)]
    by_cases e : j = i
    · rw [if_pos e, e]
    · rw [if_neg e]; exact h2 j (by omega)
  · intro s ⟨h1, h2⟩
    have : s = l := List.ext_getElem h1 fun j hj hj' => by have := h2 j (by omega); simpa [List.getD, hj, hj'] using this
    rw [this]; exact h
theorem m_toForm {f : Vc.Form} {K : Vc.Form → Prop} (hl : f.terms.length ≤ 1048576) (h : K f) : f_laws_toForm f K := by
  unfold f_laws_toForm
  exact m_toTermS hl h
theorem m_szForm {f : Vc.Form} {n : Int} {K : Int → Prop} (hl : (f.terms.length : Int) ≤ 9223372036854775807) (hn : 0 ≤ n ∧ n ≤ 1048576) (h1 : (f.terms.length : Int) ≤ n → K (n - f.terms.length)) (h2 : ∀ r, r < 0 → K r) : f_laws_szForm f n K := by
  unfold f_laws_szForm f_laws_szTermS
  rw [i64_in _ (by omega)]
  split
  · exact h2 _ (by omega)
  · dsimp only
    rw [if_neg (by assumption)]
    exact h1 (by omega)
theorem formR_len (l : List Term) : (formR l).1.terms.length ≤ 400 := by
  unfold formR; split
  · rename_i h; exact h.1
  · simp
theorem OkForm.map_fit {ds : List Int} {l : List Term} {m : List (A8 × Int)} (h : OkForm ds l) (hm : IsMap l m) : ∀ p, p ∈ m → WkMono ds p.1 := fun p hp => by
  obtain ⟨t, ht, e⟩ := hm.ks p hp
  rw [← e]; exact (h.mono ht).wk
theorem FitT.map {l : List Term} {m : List (A8 × Int)} (h : FitT l) (hm : IsMap l m) : ∀ p, p ∈ m → ∀ i, i < 8 → 0 ≤ p.1.get i ∧ p.1.get i ≤ 255 := fun p hp => by
  obtain ⟨t, ht, e⟩ := hm.ks p hp
  rw [← e]; exact h.pos t ht
theorem okP_get {a : A8} (h : ∀ i, i < 8 → 0 ≤ a.get i ∧ a.get i ≤ 1000000) : OkP a := fun x hx => by
  obtain ⟨i, hi, rfl⟩ := A8.mem_list.1 hx
  have := h i hi
  omega
/-- The told form is what the program gives. -/
theorem told_formR {ds : List Int} {l : List Term} (hc : Canon l) (hm : ∀ t, t ∈ l → (OkMono ds t.mono ↔ Low t.mono)) {K : Vc.Form → Int → Prop} (h : K (formR l).1 (formR l).2) : if OkForm ds l then K ⟨l⟩ 0 else K ⟨[]⟩ 3 := by
  by_cases q : l.length ≤ 400 ∧ ∀ t, t ∈ l → Low t.mono
  · rw [formR, if_pos q] at h
    rw [if_pos (okForm_of hc q.1 fun t ht => (hm t ht).2 (q.2 t ht))]
    exact h
  · rw [formR, if_neg q] at h
    rw [if_neg (fun z => q ⟨z.1, fun t ht => (hm t ht).1 (z.mono ht)⟩)]
    exact h
theorem monoLow {ds : List Int} {a : A8} (h : OkMono ds a) : Low a := fun i hi => by
  by_cases hl : i < ds.length
  · exact ((h i hi).1 hl).1
  · rw [(h i hi).2 (by omega)]; omega
/-! ### Products -/
theorem mono_prod {ds : List Int} {a b : A8} (hd : OkDeg ds) (ha : OkMono ds a) (hb : OkMono ds b) (pa : ∀ i, i < 8 → 0 ≤ a.get i) (pb : ∀ i, i < 8 → 0 ≤ b.get i) (hc : ¬ Clash ds a b) : OkMono ds (a.add b) ↔ Low (a.add b) := by
  have hs : (joined ds a b).2 ≠ 0 := fun e => hc (joined_z e)
  have := joined_mono hd ha hb pa pb hs
  rwa [(joined_nz hs).2.1] at this
theorem m_when {b : Bool} {c : Int} {K : Int → Prop} (h : K (if b = true then c else 0)) : f_impl_when b c K := by
  unfold f_impl_when
  split
  · rename_i q; rwa [if_pos q] at h
  · rename_i q; rwa [if_neg q] at h
/-! ### Steps of laws -/
theorem not_no {A B : Prop} (h : B) : if ¬ (true = true) then A else B := by simpa using h
theorem ne_no {c : Int} {A B : Prop} (h : B) : if c ≠ c then A else B := by simpa using h
theorem lt_no {c : Int} {A B : Prop} (hc : 0 ≤ c) (h : B) : if c < 0 then A else B := by rw [if_neg (by omega)]; exact h
theorem same_Form {f : Vc.Form} {K : Bool → Prop} (h : K true) : f_laws_eqForm f f K := m_eqForm (by simpa using h)
theorem same_Int64S {l : List Int} {K : Bool → Prop} (h : K true) : f_laws_eqInt64S l l K := m_eqInt64S (by simpa using h)
theorem same_Bool {K : Prop} (h : K) : K := h
end Go.Proofs.Ytgmldfmfpodgiaa
