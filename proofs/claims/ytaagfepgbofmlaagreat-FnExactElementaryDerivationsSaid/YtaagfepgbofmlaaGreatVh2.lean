/- Plain laws: marks of rows and algebras; laws of functions that give an algebra. -/
import Derived.Test.YtaagfepgbofmlaaGreatVe0
set_option linter.unusedVariables false
set_option linter.unusedSimpArgs false
namespace Go.Proofs.YtaagfepgbofmlaaGreat
open Go Vc
/-- A term that bears marks. -/
def cnt (fs : List Vc.Form) : Nat := (fs.map (fun f => f.terms.length)).sum
theorem m_markForms {fs : List Vc.Form} {m : Int} {K : Int → List Vc.Form → Prop} (hm : 0 ≤ m ∧ m + 9 * cnt fs ≤ 4611686018427387904) (h : ∀ x' n, 0 ≤ n → n ≤ m + 9 * cnt fs → (∀ K' : Int → Prop, K' n → f_laws_heldFormS x' m K') → K n x') (hl : fs.length ≤ 1000000) : f_laws_markFormS fs m K := by
  unfold f_laws_markFormS
  let part (i : Nat) : Int := m + 9 * cnt (fs.take i)
  have hp0 : part 0 = m := by simp [part, cnt]
  have hps : ∀ i, i < fs.length → part (i + 1) = part i + 9 * (fs.getD i default).terms.length := by
    intro i hi
    simp only [part, cnt, List.take_add_one, List.getElem?_eq_getElem hi, Option.toList_some, List.map_append, List.sum_append, List.map_cons, List.map_nil, List.sum_cons, List.sum_nil, List.getD, Option.getD_some]
    omega
  have hpl : part fs.length = m + 9 * cnt fs := by simp [part]
  have hmono : ∀ i, i ≤ fs.length → m ≤ part i ∧ part i ≤ m + 9 * cnt fs := by
    intro i hi
    have : cnt fs = cnt (fs.take i) + cnt (fs.drop i) := by
      unfold cnt; rw [← List.sum_append, ← List.map_append, List.take_append_drop]
    simp only [part]; omega
  refine whileP_inv (fun (s : List Vc.Form × Int × Int) => s.1.length = fs.length ∧ (0 ≤ s.2.2 ∧ s.2.2 ≤ fs.length) ∧ s.2.1 = part s.2.2.toNat ∧ (∀ j : Nat, (j : Int) < s.2.2 → (s.1.getD j default).terms.length = (fs.getD j default).terms.length ∧ ∀ q, q < (s.1.getD j default).terms.length → TermAt ((s.1.getD j default).terms.getD q default) (part j + 9 * q)) ∧ ∀ j : Nat, s.2.2 ≤ (j : Int) → s.1.getD j default = fs.getD j default) (fun s => fs.length - s.2.2.toNat) ?_ ⟨rfl, by dsimp only; omega, by dsimp only; exact hp0.symm, by intro j hj; dsimp only at hj; omega, fun _ _ => rfl⟩
  rintro ⟨x, c, i⟩ next ⟨h1, h2, h3, h4, h5⟩ hn
  dsimp only at h1 h2 h3 h4 h5 ⊢
  split
  · rename_i hi
    refine ⟨by omega, ?_⟩
    have hin : i.toNat < fs.length := by omega
    have hxi : x.getD i.toNat default = fs.getD i.toNat default := h5 _ (by omega)
    have hs := hps i.toNat hin
    have hb := hmono (i.toNat + 1) (by omega)
    have hb0 := hmono i.toNat (by omega)
    rw [hxi]
    refine m_markTermS (by rw [h3]; omega) fun y hy ht => ?_
    rw [i64_in (i + 1) (by omega)]
    refine hn _ ⟨by simpa using h1, by dsimp only; omega, by dsimp only; rw [show (i + 1).toNat = i.toNat + 1 by omega, hs, h3], fun j hj => ?_, fun j hj => ?_⟩ (by dsimp only; omega)
    · dsimp only at hj ⊢
      rw [set_getD (by omega)]
      split
      · rename_i e
        subst e
        refine ⟨hy, fun q hq => ?_⟩
        have := ht q hq
        rwa [h3] at this
      · exact h4 j (by omega)
    · dsimp only at hj ⊢
      rw [set_getD (by omega), if_neg (by omega)]
      exact h5 j (by omega)
  · rename_i hi
    have hie : i.toNat = fs.length := by omega
    have hc : c = part fs.length := by rw [h3, hie]
    have hb := hmono fs.length (Nat.le_refl _)
    rw [hc]
    refine h x _ (by omega) hb.2 fun K' hK' => ?_
    unfold f_laws_heldFormS
    refine forN_inv (fun j (s : Int) => s = part j) x.length ?_ ?_ _ _ _ (by omega) hp0.symm
    · intro j s next hj hs hn'
      obtain ⟨g1, g2⟩ := h4 j (by omega)
      have hsj := hps j (by omega)
      have hb1 := hmono (j + 1) (by omega)
      have hb0 := hmono j (by omega)
      refine held_terms (by rw [hs, g1]; omega) (fun q hq => by rw [hs]; exact g2 q hq) ?_
      rw [if_neg (by rw [hs, g1]; omega)]
      exact hn' _ (by rw [hs, g1, hsj])
    · intro s hs
      rw [hs, h1]; exact hK'
theorem m_markInt64N {l : List Int} {m : Int} {K : Int → List Int → Prop} (hm : 0 ≤ m ∧ m + l.length ≤ 4611686018427387904) (h : ∀ x', K (m + l.length) x') : f_laws_markInt64S l m K := by
  unfold f_laws_markInt64S
  refine whileP_inv (fun (s : List Int × Int × Int) => s.1.length = l.length ∧ (0 ≤ s.2.2 ∧ s.2.2 ≤ l.length) ∧ s.2.1 = m + s.2.2) (fun s => l.length - s.2.2.toNat) ?_ ⟨rfl, by dsimp only; omega, by simp⟩
  rintro ⟨x, c, i⟩ next ⟨h1, h2, h3⟩ hn
  dsimp only at h1 h2 h3 ⊢
  split
  · rename_i hi
    refine ⟨by omega, ?_⟩
    rw [i64_in (c + 1) (by omega), i64_in (i + 1) (by omega)]
    exact hn _ ⟨by simpa using h1, by dsimp only; omega, by dsimp only; omega⟩ (by dsimp only; omega)
  · rename_i hi
    have hc : c = m + l.length := by omega
    rw [hc]
    exact h x
theorem cnt_bd {fs : List Vc.Form} {B : Nat} (h : ∀ i, i < fs.length → (fs.getD i default).terms.length ≤ B) : cnt fs ≤ fs.length * B := by
  induction fs with
  | nil => simp [cnt]
  | cons f fs ih =>
    have h0 := h 0 (by simp)
    have h1 := ih fun i hi => by have := h (i + 1) (by simpa using hi); simpa using this
    simp only [List.getD_cons_zero] at h0
    simp only [cnt, List.map_cons, List.sum_cons, List.length_cons, Nat.add_mul, Nat.one_mul] at h1 ⊢
    omega
theorem m_markFormsN {fs : List Vc.Form} {m : Int} {K : Int → List Vc.Form → Prop} (hm : 0 ≤ m ∧ m + 9 * cnt fs ≤ 4611686018427387904) (h : ∀ x' n, 0 ≤ n → n ≤ m + 9 * cnt fs → K n x') (hl : fs.length ≤ 1048576) : f_laws_markFormS fs m K := by
  unfold f_laws_markFormS
  let part (i : Nat) : Int := m + 9 * cnt (fs.take i)
  have hp0 : part 0 = m := by simp [part, cnt]
  have hps : ∀ i, i < fs.length → part (i + 1) = part i + 9 * (fs.getD i default).terms.length := by
    intro i hi
    simp only [part, cnt, List.take_add_one, List.getElem?_eq_getElem hi, Option.toList_some, List.map_append, List.sum_append, List.map_cons, List.map_nil, List.sum_cons, List.sum_nil, List.getD, Option.getD_some]
    omega
  have hpl : part fs.length = m + 9 * cnt fs := by simp [part]
  have hmono : ∀ i, i ≤ fs.length → m ≤ part i ∧ part i ≤ m + 9 * cnt fs := by
    intro i hi
    have : cnt fs = cnt (fs.take i) + cnt (fs.drop i) := by
      unfold cnt; rw [← List.sum_append, ← List.map_append, List.take_append_drop]
    simp only [part]; omega
  refine whileP_inv (fun (s : List Vc.Form × Int × Int) => s.1.length = fs.length ∧ (0 ≤ s.2.2 ∧ s.2.2 ≤ fs.length) ∧ s.2.1 = part s.2.2.toNat ∧ ∀ j : Nat, s.2.2 ≤ (j : Int) → s.1.getD j default = fs.getD j default) (fun s => fs.length - s.2.2.toNat) ?_ ⟨rfl, by dsimp only; omega, by dsimp only; exact hp0.symm, fun _ _ => rfl⟩
  rintro ⟨x, c, i⟩ next ⟨h1, h2, h3, h5⟩ hn
  dsimp only at h1 h2 h3 h5 ⊢
  split
  · rename_i hi
    refine ⟨by omega, ?_⟩
    have hin : i.toNat < fs.length := by omega
    have hxi : x.getD i.toNat default = fs.getD i.toNat default := h5 _ (by omega)
    have hs := hps i.toNat hin
    have hb := hmono (i.toNat + 1) (by omega)
    have hb0 := hmono i.toNat (by omega)
    rw [hxi]
    refine m_markTermS (by rw [h3]; omega) fun y hy ht => ?_
    rw [i64_in (i + 1) (by omega)]
    refine hn _ ⟨by simpa using h1, by dsimp only; omega, by dsimp only; rw [show (i + 1).toNat = i.toNat + 1 by omega, hs, h3], fun j hj => ?_⟩ (by dsimp only; omega)
    · dsimp only at hj ⊢
      rw [set_getD (by omega), if_neg (by omega)]
      exact h5 j (by omega)
  · rename_i hi
    have hie : i.toNat = fs.length := by omega
    have hc : c = part fs.length := by rw [h3, hie]
    have hb := hmono fs.length (Nat.le_refl _)
    rw [hc]
    exact h x _ (by omega) hb.2
theorem m_markAlgebraN {a : Alg} {m : Int} {K : Int → Alg → Prop} (hm : 0 ≤ m ∧ m ≤ 100000000000000000) (h1 : a.degrees.length ≤ 1048576) (h2 : a.images.length ≤ 1048576) (h3 : ∀ i, i < a.images.length → (a.images.getD i default).terms.length ≤ 1048576) (h : ∀ x' n, 0 ≤ n → n ≤ m + 10000000000000 → K n x') : f_laws_markAlgebra a m K := by
  unfold f_laws_markAlgebra
  have hc := cnt_bd h3
  have hc2 : a.images.length * 1048576 ≤ 1048576 * 1048576 := Nat.mul_le_mul_right _ h2
  refine m_markInt64N (by omega) fun d => ?_
  exact m_markFormsN (by omega) (fun fs n h0 hn => h _ n h0 (by omega)) (by omega)
end Go.Proofs.YtaagfepgbofmlaaGreat
