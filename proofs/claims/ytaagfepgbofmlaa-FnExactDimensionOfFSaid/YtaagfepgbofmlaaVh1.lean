/- Plain laws: word lengths; which algebras are minimal. -/
import Derived.Test.YtaagfepgbofmlaaVe0
import Derived.Test.YtaagfepgbofmlaaGL5
set_option linter.unusedVariables false
set_option linter.unusedSimpArgs false
namespace Go.Proofs.Ytaagfepgbofmlaa
open Go Vc
theorem m_first2 {a b : Int} {K : Int → Prop} (h : K (if a ≠ 0 then a else b)) : f_impl_first [a, b] K := by
  simp only [f_impl_first, forN, List.length_cons, List.length_nil, List.getD_cons_zero, List.getD_cons_succ]
  split
  · rename_i q; rwa [if_pos q] at h
  · rename_i q
    rw [if_neg q] at h
    split
    · exact h
    · rename_i q2
      have q2 : b = 0 := Decidable.not_not.1 q2
      rwa [q2] at h
def wdU (m : A8) : Nat → Int
  | 0 => 0
  | i + 1 => wdU m i + m.get i
theorem wdU_bd {m : A8} (pm : ∀ i, i < 8 → 0 ≤ m.get i ∧ m.get i ≤ 255) : ∀ k : Nat, k ≤ 8 → 0 ≤ wdU m k ∧ wdU m k ≤ 255 * k := by
  intro k
  induction k with
  | zero => intro _; simp [wdU]
  | succ k ih => intro hk; have h1 := ih (by omega); have h2 := pm k (by omega); simp only [wdU]; omega
theorem wdU_ge {m : A8} (pm : ∀ i, i < 8 → 0 ≤ m.get i ∧ m.get i ≤ 255) {q : Nat} : ∀ k : Nat, k ≤ 8 → q < k → m.get q ≤ wdU m k := by
  intro k
  induction k with
  | zero => intro _ h; omega
  | succ k ih =>
    intro hk hq
    have h2 := pm k (by omega)
    have h3 := wdU_bd pm k (by omega)
    simp only [wdU]
    by_cases e : q = k
    · subst e; omega
    · have := ih (by omega) (by omega); omega
theorem wd_one {m : A8} (p : ∀ i, i < 8 → 0 ≤ m.get i) (h : wdU m 8 = 1) : ∃ q, q < 8 ∧ m = A8.zero.set q 1 := by
  have p0 := p 0 (by omega)
  have p1 := p 1 (by omega)
  have p2 := p 2 (by omega)
  have p3 := p 3 (by omega)
  have p4 := p 4 (by omega)
  have p5 := p 5 (by omega)
  have p6 := p 6 (by omega)
  have p7 := p 7 (by omega)
  clear p
  obtain ⟨x0, x1, x2, x3, x4, x5, x6, x7⟩ := m
  simp only [wdU, A8.get] at *
  by_cases h0 : x0 = 0
  · skip
    by_cases h1 : x1 = 0
    · skip
      by_cases h2 : x2 = 0
      · skip
        by_cases h3 : x3 = 0
        · skip
          by_cases h4 : x4 = 0
          · skip
            by_cases h5 : x5 = 0
            · skip
              by_cases h6 : x6 = 0
              · skip
                by_cases h7 : x7 = 0
                · skip
                  omega
                · refine ⟨7, by omega, ?_⟩
                  have e : A8.mk x0 x1 x2 x3 x4 x5 x6 x7 = A8.mk 0 0 0 0 0 0 0 1 := by rw [A8.mk.injEq]; omega
                  exact e
              · refine ⟨6, by omega, ?_⟩
                have e : A8.mk x0 x1 x2 x3 x4 x5 x6 x7 = A8.mk 0 0 0 0 0 0 1 0 := by rw [A8.mk.injEq]; omega
                exact e
            · refine ⟨5, by omega, ?_⟩
              have e : A8.mk x0 x1 x2 x3 x4 x5 x6 x7 = A8.mk 0 0 0 0 0 1 0 0 := by rw [A8.mk.injEq]; omega
              exact e
          · refine ⟨4, by omega, ?_⟩
            have e : A8.mk x0 x1 x2 x3 x4 x5 x6 x7 = A8.mk 0 0 0 0 1 0 0 0 := by rw [A8.mk.injEq]; omega
            exact e
        · refine ⟨3, by omega, ?_⟩
          have e : A8.mk x0 x1 x2 x3 x4 x5 x6 x7 = A8.mk 0 0 0 1 0 0 0 0 := by rw [A8.mk.injEq]; omega
          exact e
      · refine ⟨2, by omega, ?_⟩
        have e : A8.mk x0 x1 x2 x3 x4 x5 x6 x7 = A8.mk 0 0 1 0 0 0 0 0 := by rw [A8.mk.injEq]; omega
        exact e
    · refine ⟨1, by omega, ?_⟩
      have e : A8.mk x0 x1 x2 x3 x4 x5 x6 x7 = A8.mk 0 1 0 0 0 0 0 0 := by rw [A8.mk.injEq]; omega
      exact e
  · refine ⟨0, by omega, ?_⟩
    have e : A8.mk x0 x1 x2 x3 x4 x5 x6 x7 = A8.mk 1 0 0 0 0 0 0 0 := by rw [A8.mk.injEq]; omega
    exact e
theorem wd_gen {q : Nat} (hq : q < 8) : wdU (A8.zero.set q 1) 8 = 1 := by
  match q, hq with
  | 0, _ | 1, _ | 2, _ | 3, _ | 4, _ | 5, _ | 6, _ | 7, _ => rfl
theorem wt_wd {ds : List Int} {m : A8} (h8 : ds.length ≤ 8) (pm : ∀ i, i < 8 → 0 ≤ m.get i ∧ m.get i ≤ 255) (h : 1 ≤ wtU ds m ds.length) : 1 ≤ wdU m 8 := by
  rcases Int.lt_or_le (wdU m 8) 1 with q | q
  · exfalso
    have hz : ∀ i, i < 8 → m.get i = 0 := fun i hi => by have := wdU_ge pm 8 (Nat.le_refl _) hi; have := pm i hi; omega
    have : ∀ k, k ≤ ds.length → wtU ds m k = 0 := by
      intro k
      induction k with
      | zero => intro _; rfl
      | succ k ih => intro hk; simp only [wtU]; rw [ih (by omega), hz k (by omega), Int.mul_zero]; rfl
    have := this ds.length (Nat.le_refl _)
    omega
  · exact q
theorem m_l02Word {m : A8} {K : Int → Prop} (pm : ∀ i, i < 8 → 0 ≤ m.get i ∧ m.get i ≤ 255) (h : K (wdU m 8)) : f_spec_l02Word m K := by
  unfold f_spec_l02Word
  refine forN_inv (fun i (s : Int) => s = wdU m i) 8 ?_ ?_ _ _ _ (by omega) rfl
  · intro i s next hi hs hn
    have h1 := wdU_bd pm i (by omega)
    have h2 := pm i hi
    rw [i64_in (m.get i) (by omega), i64_in _ (by omega)]
    exact hn _ (by simp only [wdU]; rw [hs])
  · intro s hs; rw [hs]; exact h
theorem m_length {m : A8} {K : Int → Prop} (pm : ∀ i, i < 8 → 0 ≤ m.get i ∧ m.get i ≤ 255) (h : K (wdU m 8)) : f_impl_power_length m K := by
  unfold f_impl_power_length
  refine forN_inv (fun i (s : Int) => s = wdU m i) 8 ?_ ?_ _ _ _ (by omega) rfl
  · intro i s next hi hs hn
    have h1 := wdU_bd pm i (by omega)
    have h2 := pm i hi
    rw [i64_in _ (by omega)]
    exact hn _ (by simp only [wdU]; rw [hs])
  · intro s hs; rw [hs]; exact h
theorem m_l02Least {l : List Term} {K : Int → Prop} (hp : PosT l) (hl : l.length ≤ 1048576) (h0 : l.length = 0 → K 0) (h1 : ∀ r, 0 < l.length → (∃ j, j < l.length ∧ wdU (l.getD j default).mono 8 = r) → (∀ j, j < l.length → r ≤ wdU (l.getD j default).mono 8) → K r) : f_spec_l02Least ⟨l⟩ K := by
  unfold f_spec_l02Least
  dsimp only
  refine whileP_inv (fun (s : Int × Int) => 0 ≤ s.2 ∧ s.2 ≤ l.length ∧ ((s.2 = 0 ∧ s.1 = 0) ∨ (0 < s.2 ∧ (∃ j : Nat, (j : Int) < s.2 ∧ wdU (l.getD j default).mono 8 = s.1) ∧ ∀ j : Nat, (j : Int) < s.2 → s.1 ≤ wdU (l.getD j default).mono 8))) (fun s => l.length - s.2.toNat) ?_ ⟨Int.le_refl _, by dsimp only; omega, .inl ⟨rfl, rfl⟩⟩
  rintro ⟨s, i⟩ next ⟨g1, g2, g3⟩ hn
  dsimp only at g1 g2 g3 hn ⊢
  split
  · rename_i hi
    have a : i.toNat < l.length := by omega
    rw [i64_in (i + 1) (by omega)]
    refine ⟨by omega, m_l02Word (hp _ (getD_mem a)) ?_⟩
    have take : (0 < i → wdU (l.getD i.toNat default).mono 8 < s) → next (wdU (l.getD i.toNat default).mono 8, i + 1) := fun hlt => hn _ ⟨by dsimp only; omega, by dsimp only; omega, .inr ⟨by dsimp only; omega, ⟨i.toNat, by dsimp only; omega, rfl⟩, fun j hj => by
      dsimp only at hj ⊢
      by_cases e : j = i.toNat
      · subst e; exact Int.le_refl _
      · rcases g3 with ⟨e0, _⟩ | ⟨e0, _, hall⟩
        · omega
        · have := hall j (by omega); have := hlt e0; omega⟩⟩ (by dsimp only; omega)
    split
    · rename_i q; exact take fun z => by omega
    · rename_i q
      split
      · rename_i q2; exact take fun _ => q2
      · rename_i q2
        rcases g3 with ⟨e0, _⟩ | ⟨e0, ⟨j0, hj0, ej0⟩, hall⟩
        · omega
        · refine hn _ ⟨by dsimp only; omega, by dsimp only; omega, .inr ⟨by dsimp only; omega, ⟨j0, by dsimp only; omega, ej0⟩, fun j hj => ?_⟩⟩ (by dsimp only; omega)
          dsimp only at hj ⊢
          by_cases e : j = i.toNat
          · subst e; omega
          · exact hall j (by omega)
  · rename_i hi
    rcases g3 with ⟨e0, e1⟩ | ⟨e0, ⟨j0, hj0, ej0⟩, hall⟩
    · rw [e1]; exact h0 (by omega)
    · exact h1 s (by omega) ⟨j0, by omega, ej0⟩ fun j hj => hall j (by omega)
def Minimal (a : Alg) : Prop := ∀ i, i < a.images.length → ∀ j, j < (a.images.getD i default).terms.length → wdU ((a.images.getD i default).terms.getD j default).mono 8 ≠ 1
theorem wd_ge {a : Alg} (ok : OkAlg a) (hf : FitAlg a) {i : Nat} (hi : i < a.images.length) {j : Nat} (hj : j < (a.images.getD i default).terms.length) : 1 ≤ wdU ((a.images.getD i default).terms.getD j default).mono 8 := by
  refine wt_wd ok.deg.1 ((hf i hi).1.pos _ (getD_mem hj)) ?_
  have := ok.hom i hi j hj
  have := ok.deg.2 i (by have := ok.len; omega)
  omega
theorem m_l02Minimal {a : Alg} {K : Bool → Prop} (ok : OkAlg a) (hf : FitAlg a) (h1 : Minimal a → K true) (h2 : ¬ Minimal a → K false) : f_spec_l02Minimal a K := by
  unfold f_spec_l02Minimal
  have h8 := ok.deg.1
  have hlen := ok.len
  refine whileP_inv (fun (s : Int) => 0 ≤ s ∧ s ≤ a.images.length ∧ ∀ i : Nat, (i : Int) < s → ∀ j, j < (a.images.getD i default).terms.length → wdU ((a.images.getD i default).terms.getD j default).mono 8 ≠ 1) (fun s => a.images.length - s.toNat) ?_ ⟨Int.le_refl _, by omega, fun i hi => by omega⟩
  rintro i next ⟨g1, g2, g3⟩ hn
  split
  · rename_i hi
    have a' : i.toNat < a.images.length := by omega
    obtain ⟨hft, hfl⟩ := hf _ a'
    have hL : (⟨(a.images.getD i.toNat default).terms⟩ : Vc.Form) = a.images.getD i.toNat default := rfl
    rw [i64_in (i + 1) (by omega), ← hL]
    have good : (∀ j, j < (a.images.getD i.toNat default).terms.length → wdU ((a.images.getD i.toNat default).terms.getD j default).mono 8 ≠ 1) → next (i + 1) := fun hh => hn _ ⟨by omega, by omega, fun k hk => by
      by_cases e : k = i.toNat
      · subst e; exact hh
      · exact g3 k (by omega)⟩ (by omega)
    refine ⟨by omega, m_l02Least hft.pos hfl (fun e => ?_) (fun r hpos hex hall => ?_)⟩
    · rw [if_neg (by omega)]
      exact good fun j hj => by omega
    · split
      · rename_i q
        subst q
        obtain ⟨j, hj, ej⟩ := hex
        exact h2 fun z => z _ a' j hj ej
      · rename_i q
        refine good fun j hj e => q ?_
        obtain ⟨j0, hj0, ej0⟩ := hex
        have := hall j hj
        have := wd_ge ok hf a' hj0
        omega
  · exact h1 fun i hi => g3 i (by omega)
/-- The row of a form's linear factors. -/
theorem m_linearRow {ds : List Int} {l : List Term} {K : List Int → Prop} (h8 : ds.length ≤ 8) (hc : Canon l) (hp : FitT l) (h : K ((List.range ds.length).map fun k => coT l (A8.zero.set k 1))) : f_impl_linearRow ds ⟨l⟩ K := by
  unfold f_impl_linearRow
  refine m_sumOf hc hp fun m hm => ?_
  refine forN_inv (fun i (s : List Int) => s = (List.range i).map fun k => coT l (A8.zero.set k 1)) ds.length ?_ ?_ _ _ _ (by omega) rfl
  · intro i s next hi hs hn
    unfold f_impl_generator
    refine ⟨by omega, by rw [hs]; simp; unfold Room; omega, hn _ ?_⟩
    rw [mget_co hm.ok.1, hm.cf, hs, List.range_succ, List.map_append]
    simp
  · intro s hs; rw [hs]; exact h
theorem coT_nz {l : List Term} (hc : Canon l) {m : A8} : coT l m ≠ 0 ↔ ∃ t, t ∈ l ∧ t.mono = m := by
  constructor
  · intro h
    exact Classical.byContradiction fun hno => h (coT_zero fun t ht e => hno ⟨t, ht, e⟩)
  · rintro ⟨t, ht, rfl⟩
    have : coT l t.mono = t.factor := by
      induction l with
      | nil => cases ht
      | cons q l ih =>
        rcases List.mem_cons.1 ht with rfl | ht
        · exact hc.at_head
        · rw [coT_cons, if_neg (pcmp_ne (hc.head t ht)), Int.zero_add]; exact ih hc.tail ht
    have := hc.2 t ht
    omega
theorem m_contains {α : Type} [Inhabited α] {l : List α} {p : α → (Bool → Prop) → Prop} {K : Bool → Prop} {Q : α → Prop} (hp : ∀ i, i < l.length → ∀ K' : Bool → Prop, (Q (l.getD i default) → K' true) → (¬ Q (l.getD i default) → K' false) → p (l.getD i default) K')
    (h1 : (∃ i, i < l.length ∧ Q (l.getD i default)) → K true) (h2 : (∀ i, i < l.length → ¬ Q (l.getD i default)) → K false) :
    forN (fun i (s : Unit) next => p (l.getD i default) (fun r => (if r = true then K (decide ((i : Int) ≥ 0)) else next ()))) (fun (s : Unit) => K (decide ((-1 : Int) ≥ 0))) l.length 0 () := by
  refine forN_inv (fun i (_ : Unit) => ∀ j, j < i → ¬ Q (l.getD j default)) l.length ?_ ?_ _ _ _ (by omega) (by intro j hj; omega)
  · intro i s next hi hI hn
    refine hp i hi _ (fun q => ?_) (fun q => ?_)
    · rw [if_pos rfl, decide_eq_true (show (i : Int) ≥ 0 by omega)]
      exact h1 ⟨i, hi, q⟩
    · rw [if_neg (by simp)]
      refine hn _ fun j hj => ?_
      by_cases e : j = i
      · subst e; exact q
      · exact hI j (by omega)
  · intro s hI
    rw [decide_eq_false (show ¬ (-1 : Int) ≥ 0 by omega)]
    exact h2 hI
theorem m_isMinimal {a : Alg} {K : Bool → Prop} (ok : OkAlg a) (hf : FitAlg a) (h1 : Minimal a → K true) (h2 : ¬ Minimal a → K false) : f_impl_Algebra_isMinimal a K := by
  unfold f_impl_Algebra_isMinimal f_impl_Algebra_linearTable
  have h8 := ok.deg.1
  have hlen := ok.len
  let row (i : Nat) : List Int := (List.range a.degrees.length).map fun k => coT (a.images.getD i default).terms (A8.zero.set k 1)
  refine forN_inv (fun i (s : List (List Int)) => s = (List.range i).map row) a.images.length ?_ ?_ _ _ _ (by omega) rfl
  · intro i s next hi hs hn
    have hL : (⟨(a.images.getD i default).terms⟩ : Vc.Form) = a.images.getD i default := rfl
    rw [← hL]
    refine m_linearRow h8 (ok.frm i hi).canon (hf i hi).1 ⟨by rw [hs]; simp; unfold Room; omega, hn _ ?_⟩
    rw [hs, List.range_succ, List.map_append]
    rfl
  · intro s hs
    subst hs
    have hget : ∀ i, i < a.images.length → ((List.range a.images.length).map row).getD i default = row i := fun i hi => by simp [List.getD, hi]
    have hrow : ∀ i k, k < a.degrees.length → (row i).getD k default = coT (a.images.getD i default).terms (A8.zero.set k 1) := fun i k hk => by simp [row, List.getD, hk]
    have key : ∀ i, i < a.images.length → ((∃ k, k < a.degrees.length ∧ coT (a.images.getD i default).terms (A8.zero.set k 1) ≠ 0) ↔ ∃ j, j < (a.images.getD i default).terms.length ∧ wdU ((a.images.getD i default).terms.getD j default).mono 8 = 1) := fun i hi => by
      have hc := (ok.frm i hi).canon
      constructor
      · rintro ⟨k, hk, hnz⟩
        obtain ⟨t, ht, e⟩ := (coT_nz hc).1 hnz
        obtain ⟨j, hj, rfl⟩ := List.getElem_of_mem ht
        refine ⟨j, hj, ?_⟩
        rw [← getD_eq _ _ hj, e]
        exact wd_gen (by omega)
      · rintro ⟨j, hj, ej⟩
        have hm := (ok.frm i hi).mono (getD_mem hj)
        have pm := (hf i hi).1.pos _ (getD_mem hj)
        obtain ⟨q, hq, e⟩ := wd_one (fun i hi => (pm i hi).1) ej
        have hqn : q < a.degrees.length := by
          rcases Nat.lt_or_ge q a.degrees.length with z | z
          · exact z
          · have := (hm q hq).2 z
            rw [e, A8.get_set hq, if_pos rfl] at this
            omega
        exact ⟨q, hqn, (coT_nz hc).2 ⟨_, getD_mem hj, e⟩⟩
    unfold f_slices_ContainsFunc_rows_int64_int64 f_slices_IndexFunc_rows_int64_int64
    refine m_contains (l := (List.range a.images.length).map row) (p := fun y0_ K_ => f_impl_Algebra_isMinimal_1 y0_ K_) (K := fun r => K (!r)) (Q := fun r => ∃ k, k < a.degrees.length ∧ r.getD k default ≠ 0) (fun i hi K' c1 c2 => ?_) (fun hex => ?_) (fun hall => ?_)
    · have hi' : i < a.images.length := by simpa using hi
      unfold f_impl_Algebra_isMinimal_1 f_slices_ContainsFunc_int64_int64 f_slices_IndexFunc_int64_int64
      rw [hget i hi'] at c1 c2 ⊢
      refine m_contains (l := row i) (p := f_impl_Algebra_isMinimal_1_1) (K := K') (Q := fun x => x ≠ 0) (fun k hk K2 d1 d2 => ?_) (fun hex => ?_) (fun hall => ?_)
      · unfold f_impl_Algebra_isMinimal_1_1
        by_cases z : (row i).getD k default = 0
        · rw [decide_eq_false (fun n => n z)]; exact d2 fun n => n z
        · rw [decide_eq_true z]; exact d1 z
      · obtain ⟨k, hk, hz⟩ := hex
        exact c1 ⟨k, by simpa [row] using hk, hz⟩
      · exact c2 fun ⟨k, hk, hz⟩ => hall k (by simpa [row] using hk) hz
    · obtain ⟨i, hi, k, hk, hz⟩ := hex
      have hi' : i < a.images.length := by simpa using hi
      rw [hget i hi', hrow i k hk] at hz
      obtain ⟨j, hj, ej⟩ := (key i hi').1 ⟨k, hk, hz⟩
      exact h2 fun z => z i hi' j hj ej
    · refine h1 fun i hi j hj ej => ?_
      obtain ⟨k, hk, hz⟩ := (key i hi).2 ⟨j, hj, ej⟩
      exact hall i (by simpa using hi) ⟨k, hk, by rw [hget i hi, hrow i k hk]; exact hz⟩
theorem m_pageCode {a : Alg} {b : Bool} {K : Int → Prop} (hf : FitAlg a) (h1 : ¬ OkAlg a → K 1) (h2 : OkAlg a → ¬ Minimal a → K 5) (h3 : OkAlg a → Minimal a → K (if b = true then 0 else 2)) : f_impl_pageCode a b K := by
  unfold f_impl_pageCode
  refine m_algebraCode0 hf (fun ok => ?_) (fun no => ?_)
  · rw [if_pos rfl]
    refine m_isMinimal ok hf (fun m => ?_) (fun m => ?_)
    · rw [if_neg (by simp)]
      refine m_when (m_first2 ?_)
      rw [if_neg (by simp)]
      have := h3 ok m
      cases b <;> simpa using this
    · rw [if_pos (by simp)]
      refine m_when (m_first2 ?_)
      rw [if_pos (by decide)]
      exact h2 ok m
  · rw [if_neg (by decide)]
    refine m_when (m_first2 ?_)
    rw [if_pos (by decide)]
    exact h1 no
theorem m_l10Minimal {a : Alg} {K : Int → Prop} (hf : FitAlg a) (h1 : ¬ OkAlg a → K 1) (h2 : OkAlg a → ¬ Minimal a → K 5) (h3 : OkAlg a → Minimal a → K 0) : f_spec_l10Minimal a K := by
  unfold f_spec_l10Minimal
  refine m_l02Is hf (fun ok => ?_) (fun no => ?_)
  · rw [if_neg (by simp)]
    refine m_l02Minimal ok hf (fun m => ?_) (fun m => ?_)
    · rw [if_neg (by simp)]; exact h3 ok m
    · rw [if_pos (by simp)]; exact h2 ok m
  · rw [if_pos (by simp)]; exact h1 no
end Go.Proofs.Ytaagfepgbofmlaa
