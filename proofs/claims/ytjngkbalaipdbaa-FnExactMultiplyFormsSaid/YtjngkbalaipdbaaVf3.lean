/- Plain laws: sums, multiples and products of forms; copies and marks of a form. -/
import Derived.Test.YtjngkbalaipdbaaVf2
import Derived.Test.YtjngkbalaipdbaaVp4
set_option linter.unusedVariables false
set_option linter.unusedSimpArgs false
namespace Go.Proofs.Ytjngkbalaipdbaa
open Go Vc
theorem m_toTerm {t : Term} {K : Term → Prop} (h : K t) : f_laws_toTerm t K := by
  unfold f_laws_toTerm
  exact m_toMonomial h
theorem m_toTermS {l : List Term} {K : List Term → Prop} (hl : l.length ≤ 1048576) (h : K l) : f_laws_toTermS l K := by
  unfold f_laws_toTermS
  refine ⟨by omega, ?_⟩
  refine forN_inv (fun i (s : List Term) => s.length = l.length ∧ ∀ j, j < i → s.getD j default = l.getD j default) l.length ?_ ?_ _ _ _ (by omega) ⟨by simp, by intro j hj; omega⟩
  · intro i s next hi ⟨h1, h2⟩ hn
    refine m_toTerm ⟨by omega, hn _ ⟨by simpa using h1, fun j hj => ?_⟩⟩
    rw [set_getD (by omega)]
    by_cases e : j = i
    · rw [if_pos e, e]
    · rw [if_neg e]; exact h2 j (by omega)
  · intro s ⟨h1, h2⟩
    have : s = l := List.ext_getElem h1 fun j hj hj' => by have := h2 j (by omega); simpa [List.getD, hj, hj'] using this
    rw [this]; exact h
theorem m_toForm {f : Vc.Form} {K : Vc.Form → Prop} (hl : f.terms.length ≤ 1048576) (h : K f) : f_laws_toForm f K := by
  unfold f_laws_toForm
  exact m_toTermS hl h
theorem m_szForm {f : Vc.Form} {n : Int} {K : Int → Prop} (hl : (f.terms.length : Int) ≤ 9223372036854775807) (hn : 0 ≤ n ∧ n ≤ 1048576) (h1 : (f.terms.length : Int) ≤ n → K (n - f.terms.length)) (h2 : ∀ r, r < 0 → K r) : f_laws_szForm f n K := by
  unfold f_laws_szForm f_laws_szTermS
  rw [i64_in _ (by omega)]
  split
  · exact h2 _ (by omega)
  · dsimp only
    rw [if_neg (by assumption)]
    exact h1 (by omega)
theorem m_markForm {f : Vc.Form} {m : Int} {K : Int → Vc.Form → Prop} (hm : 0 ≤ m ∧ m + 9 * f.terms.length ≤ 4611686018427387904) (h : ∀ x', (∀ K' : Int → Prop, K' (m + 9 * f.terms.length) → f_laws_heldForm ⟨x'⟩ m K') → K (m + 9 * f.terms.length) ⟨x'⟩) : f_laws_markForm f m K := by
  unfold f_laws_markForm
  refine m_markTermS hm fun x' hx ht => h x' fun K' hK => ?_
  unfold f_laws_heldForm
  refine held_terms (by rw [hx]; exact hm) ht ?_
  rw [hx, if_neg (by omega)]
  exact hK
theorem formR_len (l : List Term) : (formR l).1.terms.length ≤ 400 := by
  unfold formR; split
  · rename_i h; exact h.1
  · simp
theorem OkForm.map_fit {ds : List Int} {l : List Term} {m : List (A8 × Int)} (h : OkForm ds l) (hm : IsMap l m) : ∀ p, p ∈ m → WkMono ds p.1 := fun p hp => by
  obtain ⟨t, ht, e⟩ := hm.ks p hp
  rw [← e]; exact (h.mono ht).wk
theorem FitT.map {l : List Term} {m : List (A8 × Int)} (h : FitT l) (hm : IsMap l m) : ∀ p, p ∈ m → ∀ i, i < 8 → 0 ≤ p.1.get i ∧ p.1.get i ≤ 255 := fun p hp => by
  obtain ⟨t, ht, e⟩ := hm.ks p hp
  rw [← e]; exact h.pos t ht
theorem okP_get {a : A8} (h : ∀ i, i < 8 → 0 ≤ a.get i ∧ a.get i ≤ 1000000) : OkP a := fun x hx => by
  obtain ⟨i, hi, rfl⟩ := A8.mem_list.1 hx
  have := h i hi
  omega
/-- The told form is what the program gives. -/
theorem told_formR {ds : List Int} {l : List Term} (hc : Canon l) (hm : ∀ t, t ∈ l → (OkMono ds t.mono ↔ Low t.mono)) {K : Vc.Form → Int → Prop} (h : K (formR l).1 (formR l).2) : if OkForm ds l then K ⟨l⟩ 0 else K ⟨[]⟩ 3 := by
  by_cases q : l.length ≤ 400 ∧ ∀ t, t ∈ l → Low t.mono
  · rw [formR, if_pos q] at h
    rw [if_pos (okForm_of hc q.1 fun t ht => (hm t ht).2 (q.2 t ht))]
    exact h
  · rw [formR, if_neg q] at h
    rw [if_neg (fun z => q ⟨z.1, fun t ht => (hm t ht).1 (z.mono ht)⟩)]
    exact h
theorem monoLow {ds : List Int} {a : A8} (h : OkMono ds a) : Low a := fun i hi => by
  by_cases hl : i < ds.length
  · exact ((h i hi).1 hl).1
  · rw [(h i hi).2 (by omega)]; omega
/-! ### Sums -/
theorem m_specAdd {ds : List Int} {f g : List Term} {K : Vc.Form → Int → Prop} (lf : f.length ≤ 1048576) (lg : g.length ≤ 1048576) (pf : FitT f) (pg : FitT g)
    (h1 : ¬ (OkDeg ds ∧ OkForm ds f ∧ OkForm ds g) → K ⟨[]⟩ 1) (h2 : OkDeg ds → OkForm ds f → OkForm ds g → ∀ l, IsAdd f g 1 l → K (formR l).1 (formR l).2) : f_spec_AddForms ds ⟨f⟩ ⟨g⟩ K := by
  unfold f_spec_AddForms
  refine m_l01Degrees ?_
  split
  · rename_i q; exact h1 fun z => q (decide_eq_true z.1)
  · rename_i q1
    have q1 := of_decide_eq_true (Decidable.not_not.1 q1)
    refine m_l01Is q1.1 pf.pos (by omega) ?_
    split
    · rename_i q; exact h1 fun z => q (decide_eq_true z.2.1)
    · rename_i q2
      have q2 := of_decide_eq_true (Decidable.not_not.1 q2)
      refine m_l01Is q1.1 pg.pos (by omega) ?_
      split
      · rename_i q; exact h1 fun z => q (decide_eq_true z.2.2)
      · rename_i q3
        have q3 := of_decide_eq_true (Decidable.not_not.1 q3)
        refine m_l01Add q2.canon q3.canon (by omega) (by omega) (by omega) fun l hl => ?_
        have hmo : ∀ t, t ∈ l → OkMono ds t.mono ∧ ∀ i, i < 8 → 0 ≤ t.mono.get i ∧ t.mono.get i ≤ 255 := fun t ht => by
          obtain ⟨y, hy, e⟩ := hl.mo t ht
          rw [← e]
          rcases hy with hy | hy
          · exact ⟨q2.mono hy, pf.pos y hy⟩
          · exact ⟨q3.mono hy, pg.pos y hy⟩
        refine m_l01Told q1.1 (fun t ht => (hmo t ht).2) (by have := hl.ln; dsimp only; omega) ?_
        exact told_formR hl.can (fun t ht => ⟨fun z => monoLow z, fun _ => (hmo t ht).1⟩) (h2 q1 q2 q3 l hl)
theorem m_implAdd {ds : List Int} {f g : List Term} {K : Vc.Form → Int → Prop} (pf : FitT f) (pg : FitT g)
    (h1 : ¬ (OkDeg ds ∧ OkForm ds f ∧ OkForm ds g) → K ⟨[]⟩ 1) (h2 : OkDeg ds → OkForm ds f → OkForm ds g → ∀ l, Canon l → (∀ m, coT l m % 10007 = (coT f m + 1 * coT g m) % 10007) → K (formR l).1 (formR l).2) : f_impl_AddForms ds ⟨f⟩ ⟨g⟩ K := by
  unfold f_impl_AddForms
  refine m_IsForm pf ?_
  split
  · rename_i q; exact h1 fun z => q (decide_eq_true ⟨z.1, z.2.1⟩)
  · rename_i q1
    have q1 := of_decide_eq_true (Decidable.not_not.1 q1)
    refine m_IsForm pg ?_
    split
    · rename_i q; exact h1 fun z => q (decide_eq_true ⟨z.1, z.2.2⟩)
    · rename_i q2
      have q2 := of_decide_eq_true (Decidable.not_not.1 q2)
      refine m_sumOf q1.2.canon pf fun s hs => m_sumOf q2.2.canon pg fun t ht => m_addAll hs.ok ht.ok (by omega) fun u hu => ?_
      refine m_formG hu.ok (fun p hp => ?_) fun l hc hl _ => h2 q1.1 q1.2 q2.2 l hc fun m => ?_
      · obtain ⟨q, hq, e⟩ := hu.ks p hp
        rw [← e]
        refine okP_get fun i hi => ?_
        rcases hq with hq | hq
        · have := pf.map hs q hq i hi; omega
        · have := pg.map ht q hq i hi; omega
      · rw [hl, hu.cf, hs.cf, ht.cf]
/-! ### Products -/
theorem mono_prod {ds : List Int} {a b : A8} (hd : OkDeg ds) (ha : OkMono ds a) (hb : OkMono ds b) (pa : ∀ i, i < 8 → 0 ≤ a.get i) (pb : ∀ i, i < 8 → 0 ≤ b.get i) (hc : ¬ Clash ds a b) : OkMono ds (a.add b) ↔ Low (a.add b) := by
  have hs : (joined ds a b).2 ≠ 0 := fun e => hc (joined_z e)
  have := joined_mono hd ha hb pa pb hs
  rwa [(joined_nz hs).2.1] at this
theorem m_specMulF {ds : List Int} {f g : List Term} {K : Vc.Form → Int → Prop} (lf : f.length ≤ 1048576) (lg : g.length ≤ 1048576) (pf : FitT f) (pg : FitT g)
    (h1 : ¬ (OkDeg ds ∧ OkForm ds f ∧ OkForm ds g) → K ⟨[]⟩ 1) (h2 : OkDeg ds → OkForm ds f → OkForm ds g → ∀ l, IsProd ds f g l → K (formR l).1 (formR l).2) : f_spec_MultiplyForms ds ⟨f⟩ ⟨g⟩ K := by
  unfold f_spec_MultiplyForms
  refine m_l01Degrees ?_
  split
  · rename_i q; exact h1 fun z => q (decide_eq_true z.1)
  · rename_i q1
    have q1 := of_decide_eq_true (Decidable.not_not.1 q1)
    refine m_l01Is q1.1 pf.pos (by omega) ?_
    split
    · rename_i q; exact h1 fun z => q (decide_eq_true z.2.1)
    · rename_i q2
      have q2 := of_decide_eq_true (Decidable.not_not.1 q2)
      refine m_l01Is q1.1 pg.pos (by omega) ?_
      split
      · rename_i q; exact h1 fun z => q (decide_eq_true z.2.2)
      · rename_i q3
        have q3 := of_decide_eq_true (Decidable.not_not.1 q3)
        refine m_l01Times q1 q2.canon (fun u hu => (q2.mono hu).wk) pf.pos q3.canon (fun u hu => (q3.mono hu).wk) pg.pos (by have := q2.1; omega) (by have := q3.1; omega) fun l hl => ?_
        have hmo : ∀ t, t ∈ l → (OkMono ds t.mono ↔ Low t.mono) ∧ ∀ i, i < 8 → 0 ≤ t.mono.get i ∧ t.mono.get i ≤ 255 := fun t ht => by
          obtain ⟨a, b, ha, hb, e, hc⟩ := hl.mo t ht
          rw [e]
          refine ⟨mono_prod q1 (q2.mono ha) (q3.mono hb) (fun i hi => (pf.pos a ha i hi).1) (fun i hi => (pg.pos b hb i hi).1) hc, fun i hi => ?_⟩
          rw [A8.get_add]
          have := pf.pos a ha i hi
          have := pg.pos b hb i hi
          have := monoLow (q2.mono ha) i hi
          have := monoLow (q3.mono hb) i hi
          omega
        refine m_l01Told q1.1 (fun t ht => (hmo t ht).2) ?_ ?_
        · have := hl.ln
          dsimp only
          have : f.length * g.length ≤ 400 * 400 := Nat.mul_le_mul q2.1 q3.1
          omega
        · exact told_formR hl.can (fun t ht => (hmo t ht).1) (h2 q1 q2 q3 l hl)
theorem m_implMulF {ds : List Int} {f g : List Term} {K : Vc.Form → Int → Prop} (pf : FitT f) (pg : FitT g)
    (h1 : ¬ (OkDeg ds ∧ OkForm ds f ∧ OkForm ds g) → K ⟨[]⟩ 1) (h2 : OkDeg ds → OkForm ds f → OkForm ds g → ∀ l, Canon l → (∀ m, coT l m % 10007 = prC ds f g m % 10007) → K (formR l).1 (formR l).2) : f_impl_MultiplyForms ds ⟨f⟩ ⟨g⟩ K := by
  unfold f_impl_MultiplyForms
  refine m_IsForm pf ?_
  split
  · rename_i q; exact h1 fun z => q (decide_eq_true ⟨z.1, z.2.1⟩)
  · rename_i q1
    have q1 := of_decide_eq_true (Decidable.not_not.1 q1)
    refine m_IsForm pg ?_
    split
    · rename_i q; exact h1 fun z => q (decide_eq_true ⟨z.1, z.2.2⟩)
    · rename_i q2
      have q2 := of_decide_eq_true (Decidable.not_not.1 q2)
      refine m_sumOf q1.2.canon pf fun s hs => m_sumOf q2.2.canon pg fun t ht => m_sumTimes q1.1 hs.ok (q1.2.map_fit hs) (fun p hp i hi => (pf.map hs p hp i hi).1) ht.ok (q2.2.map_fit ht) (fun p hp i hi => (pg.map ht p hp i hi).1) fun u hu => ?_
      refine m_formG hu.ok (fun p hp => ?_) fun l hc hl _ => h2 q1.1 q1.2 q2.2 l hc fun m => ?_
      · obtain ⟨a, b, ha, hb, e, _⟩ := hu.ks p hp
        rw [e]
        refine okP_get fun i hi => ?_
        rw [A8.get_add]
        have := pf.map hs a ha i hi
        have := pg.map ht b hb i hi
        omega
      · rw [hl, hu.cf, prM_prC hs q1.2.canon ht q2.2.canon]
/-! ### Multiples -/
theorem m_when {b : Bool} {c : Int} {K : Int → Prop} (h : K (if b = true then c else 0)) : f_impl_when b c K := by
  unfold f_impl_when
  split
  · rename_i q; rwa [if_pos q] at h
  · rename_i q; rwa [if_neg q] at h
theorem m_first2 {a b : Int} {K : Int → Prop} (h : K (if a ≠ 0 then a else b)) : f_impl_first [a, b] K := by
  simp only [f_impl_first, forN, List.length_cons, List.length_nil, List.getD_cons_zero, List.getD_cons_succ]
  split
  · rename_i q; rwa [if_pos q] at h
  · rename_i q
    rw [if_neg q] at h
    split
    · exact h
    · rename_i q2
      have q2 : b = 0 := Decidable.not_not.1 q2
      rwa [q2] at h
theorem m_specScale {ds : List Int} {k : Int} {f : List Term} {K : Vc.Form → Int → Prop} (lf : f.length ≤ 1048576) (pf : FitT f)
    (h1 : ¬ (OkDeg ds ∧ OkForm ds f) → K ⟨[]⟩ 1) (h2 : (OkDeg ds ∧ OkForm ds f) → ¬ (0 ≤ k ∧ k ≤ 10006) → K ⟨[]⟩ 2) (h3 : OkDeg ds → OkForm ds f → (0 ≤ k ∧ k ≤ 10006) → ∀ l, IsAdd [] f k l → K ⟨l⟩ 0) : f_spec_ScaleForm ds k ⟨f⟩ K := by
  unfold f_spec_ScaleForm
  refine m_specIsForm pf.pos (by omega) ?_
  split
  · rename_i q; exact h1 fun z => q (decide_eq_true z)
  · rename_i q1
    have q1 := of_decide_eq_true (Decidable.not_not.1 q1)
    refine m_l01In ?_
    split
    · rename_i q; exact h2 q1 fun z => q (decide_eq_true z)
    · rename_i q2
      have q2 := of_decide_eq_true (Decidable.not_not.1 q2)
      exact m_l01Add Canon.nil q1.2.canon q2 (by simp) (by omega) fun l hl => h3 q1.1 q1.2 q2 l hl
theorem m_implScale {ds : List Int} {k : Int} {f : List Term} {K : Vc.Form → Int → Prop} (pf : FitT f)
    (h1 : ¬ (OkDeg ds ∧ OkForm ds f) → K ⟨[]⟩ 1) (h2 : (OkDeg ds ∧ OkForm ds f) → ¬ (0 ≤ k ∧ k ≤ 10006) → K ⟨[]⟩ 2)
    (h3 : OkDeg ds → OkForm ds f → (0 ≤ k ∧ k ≤ 10006) → ∀ l, Canon l → (∀ m, coT l m % 10007 = (coT [] m + k * coT f m) % 10007) → K (formR l).1 (formR l).2) : f_impl_ScaleForm ds k ⟨f⟩ K := by
  unfold f_impl_ScaleForm
  refine m_IsForm pf (m_when (m_within (m_when (m_first2 ?_))))
  by_cases q1 : OkDeg ds ∧ OkForm ds f
  · rw [decide_eq_true q1]
    by_cases q2 : 0 ≤ k ∧ k ≤ 10006
    · rw [decide_eq_true q2]
      simp only [Bool.not_true, Bool.false_eq_true, if_false, ne_eq, not_true_eq_false]
      refine m_sumOf q1.2.canon pf fun s hs => m_addAll MapOk.nil hs.ok q2 fun u hu => ?_
      refine m_formG hu.ok (fun p hp => ?_) fun l hc hl _ => h3 q1.1 q1.2 q2 l hc fun m => ?_
      · obtain ⟨q, hq, e⟩ := hu.ks p hp
        rw [← e]
        refine okP_get fun i hi => ?_
        rcases hq with hq | hq
        · cases hq
        · have := pf.map hs q hq i hi; omega
      · rw [hl, hu.cf, hs.cf]; rfl
    · rw [decide_eq_false q2]
      simpa using h2 q1 q2
  · rw [decide_eq_false q1]
    simpa using h1 q1
/-- A multiple of a form is a form. -/
theorem scale_formR {ds : List Int} {f l : List Term} {k : Int} (hf : OkForm ds f) (hl : IsAdd [] f k l) : formR l = (⟨l⟩, 0) := by
  rw [formR, if_pos]
  refine ⟨by have := hl.ln; have := hf.1; simp at *; omega, fun t ht => ?_⟩
  obtain ⟨y, hy, e⟩ := hl.mo t ht
  rcases hy with hy | hy
  · cases hy
  · rw [← e]; exact monoLow (hf.mono hy)
/-! ### Steps of laws -/
theorem not_no {A B : Prop} (h : B) : if ¬ (true = true) then A else B := by simpa using h
theorem ne_no {c : Int} {A B : Prop} (h : B) : if c ≠ c then A else B := by simpa using h
theorem lt_no {c : Int} {A B : Prop} (hc : 0 ≤ c) (h : B) : if c < 0 then A else B := by rw [if_neg (by omega)]; exact h
theorem same_Form {f : Vc.Form} {K : Bool → Prop} (h : K true) : f_laws_eqForm f f K := m_eqForm (by simpa using h)
theorem same_Int64S {l : List Int} {K : Bool → Prop} (h : K true) : f_laws_eqInt64S l l K := m_eqInt64S (by simpa using h)
theorem same_Bool {K : Prop} (h : K) : K := h
end Go.Proofs.Ytjngkbalaipdbaa
