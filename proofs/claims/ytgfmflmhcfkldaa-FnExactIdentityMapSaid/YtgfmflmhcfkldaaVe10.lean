/- Plain law of row 29. -/
import Derived.Test.YtgfmflmhcfkldaaVd4
import Derived.Test.YtgfmflmhcfkldaaGL10
set_option linter.unusedVariables false
set_option linter.unusedSimpArgs false
namespace Go.Proofs.Ytgfmflmhcfkldaa
open Go Vc
theorem m_markInt64N {l : List Int} {m : Int} {K : Int → List Int → Prop} (hm : 0 ≤ m ∧ m + l.length ≤ 4611686018427387904) (h : ∀ x', K (m + l.length) x') : f_laws_markInt64S l m K := by
  unfold f_laws_markInt64S
  refine whileP_inv (fun (s : List Int × Int × Int) => s.1.length = l.length ∧ (0 ≤ s.2.2 ∧ s.2.2 ≤ l.length) ∧ s.2.1 = m + s.2.2) (fun s => l.length - s.2.2.toNat) ?_ ⟨rfl, by dsimp only; omega, by simp⟩
  rintro ⟨x, c, i⟩ next ⟨h1, h2, h3⟩ hn
  dsimp only at h1 h2 h3 ⊢
  split
  · rename_i hi
    refine ⟨by omega, ?_⟩
    rw [i64_in (c + 1) (by omega), i64_in (i + 1) (by omega)]
    exact hn _ ⟨by simpa using h1, by dsimp only; omega, by dsimp only; omega⟩ (by dsimp only; omega)
  · rename_i hi
    have hc : c = m + l.length := by omega
    rw [hc]
    exact h x
def cnt (fs : List Vc.Form) : Nat := (fs.map (fun f => f.terms.length)).sum
theorem cnt_bd {fs : List Vc.Form} {B : Nat} (h : ∀ i, i < fs.length → (fs.getD i default).terms.length ≤ B) : cnt fs ≤ fs.length * B := by
  induction fs with
  | nil => simp [cnt]
  | cons f fs ih =>
    have h0 := h 0 (by simp)
    have h1 := ih fun i hi => by have := h (i + 1) (by simpa using hi); simpa using this
    simp only [List.getD_cons_zero] at h0
    simp only [cnt, List.map_cons, List.sum_cons, List.length_cons, Nat.add_mul, Nat.one_mul] at h1 ⊢
    omega
theorem m_markFormsN {fs : List Vc.Form} {m : Int} {K : Int → List Vc.Form → Prop} (hm : 0 ≤ m ∧ m + 9 * cnt fs ≤ 4611686018427387904) (h : ∀ x' n, 0 ≤ n → n ≤ m + 9 * cnt fs → K n x') (hl : fs.length ≤ 1048576) : f_laws_markFormS fs m K := by
  unfold f_laws_markFormS
  let part (i : Nat) : Int := m + 9 * cnt (fs.take i)
  have hp0 : part 0 = m := by simp [part, cnt]
  have hps : ∀ i, i < fs.length → part (i + 1) = part i + 9 * (fs.getD i default).terms.length := by
    intro i hi
    simp only [part, cnt, List.take_add_one, List.getElem?_eq_getElem hi, Option.toList_some, List.map_append, List.sum_append, List.map_cons, List.map_nil, List.sum_cons, List.sum_nil, List.getD, Option.getD_some]
    omega
  have hpl : part fs.length = m + 9 * cnt fs := by simp [part]
  have hmono : ∀ i, i ≤ fs.length → m ≤ part i ∧ part i ≤ m + 9 * cnt fs := by
    intro i hi
    have : cnt fs = cnt (fs.take i) + cnt (fs.drop i) := by
      unfold cnt; rw [← List.sum_append, ← List.map_append, List.take_append_drop]
    simp only [part]; omega
  refine whileP_inv (fun (s : List Vc.Form × Int × Int) => s.1.length = fs.length ∧ (0 ≤ s.2.2 ∧ s.2.2 ≤ fs.length) ∧ s.2.1 = part s.2.2.toNat ∧ ∀ j : Nat, s.2.2 ≤ (j : Int) → s.1.getD j default = fs.getD j default) (fun s => fs.length - s.2.2.toNat) ?_ ⟨rfl, by dsimp only; omega, by dsimp only; exact hp0.symm, fun _ _ => rfl⟩
  rintro ⟨x, c, i⟩ next ⟨h1, h2, h3, h5⟩ hn
  dsimp only at h1 h2 h3 h5 ⊢
  split
  · rename_i hi
    refine ⟨by omega, ?_⟩
    have hin : i.toNat < fs.length := by omega
    have hxi : x.getD i.toNat default = fs.getD i.toNat default := h5 _ (by omega)
    have hs := hps i.toNat hin
    have hb := hmono (i.toNat + 1) (by omega)
    have hb0 := hmono i.toNat (by omega)
    rw [hxi]
    refine m_markTermS (by rw [h3]; omega) fun y hy ht => ?_
    rw [i64_in (i + 1) (by omega)]
    refine hn _ ⟨by simpa using h1, by dsimp only; omega, by dsimp only; rw [show (i + 1).toNat = i.toNat + 1 by omega, hs, h3], fun j hj => ?_⟩ (by dsimp only; omega)
    · dsimp only at hj ⊢
      rw [set_getD (by omega), if_neg (by omega)]
      exact h5 j (by omega)
  · rename_i hi
    have hie : i.toNat = fs.length := by omega
    have hc : c = part fs.length := by rw [h3, hie]
    have hb := hmono fs.length (Nat.le_refl _)
    rw [hc]
    exact h x _ (by omega) hb.2
theorem m_markAlgebraN {a : Alg} {m : Int} {K : Int → Alg → Prop} (hm : 0 ≤ m ∧ m ≤ 1000000000000) (h1 : a.degrees.length ≤ 1048576) (h2 : a.images.length ≤ 1048576) (h3 : ∀ i, i < a.images.length → (a.images.getD i default).terms.length ≤ 1048576) (h : ∀ x' n, 0 ≤ n → n ≤ 1000000000000000 → K n x') : f_laws_markAlgebra a m K := by
  unfold f_laws_markAlgebra
  have hc := cnt_bd h3
  have hc2 : a.images.length * 1048576 ≤ 1048576 * 1048576 := Nat.mul_le_mul_right _ h2
  refine m_markInt64N (by omega) fun d => ?_
  exact m_markFormsN (by omega) (fun fs n h0 hn => h _ n h0 (by omega)) (by omega)
theorem m_markForms {fs : List Vc.Form} {m : Int} {K : Int → List Vc.Form → Prop} (hm : 0 ≤ m ∧ m + 9 * cnt fs ≤ 4611686018427387904) (h : ∀ x' n, 0 ≤ n → n ≤ m + 9 * cnt fs → (∀ K' : Int → Prop, K' n → f_laws_heldFormS x' m K') → K n x') (hl : fs.length ≤ 1000000) : f_laws_markFormS fs m K := by
  unfold f_laws_markFormS
  let part (i : Nat) : Int := m + 9 * cnt (fs.take i)
  have hp0 : part 0 = m := by simp [part, cnt]
  have hps : ∀ i, i < fs.length → part (i + 1) = part i + 9 * (fs.getD i default).terms.length := by
    intro i hi
    simp only [part, cnt, List.take_add_one, List.getElem?_eq_getElem hi, Option.toList_some, List.map_append, List.sum_append, List.map_cons, List.map_nil, List.sum_cons, List.sum_nil, List.getD, Option.getD_some]
    omega
  have hpl : part fs.length = m + 9 * cnt fs := by simp [part]
  have hmono : ∀ i, i ≤ fs.length → m ≤ part i ∧ part i ≤ m + 9 * cnt fs := by
    intro i hi
    have : cnt fs = cnt (fs.take i) + cnt (fs.drop i) := by
      unfold cnt; rw [← List.sum_append, ← List.map_append, List.take_append_drop]
    simp only [part]; omega
  refine whileP_inv (fun (s : List Vc.Form × Int × Int) => s.1.length = fs.length ∧ (0 ≤ s.2.2 ∧ s.2.2 ≤ fs.length) ∧ s.2.1 = part s.2.2.toNat ∧ (∀ j : Nat, (j : Int) < s.2.2 → (s.1.getD j default).terms.length = (fs.getD j default).terms.length ∧ ∀ q, q < (s.1.getD j default).terms.length → TermAt ((s.1.getD j default).terms.getD q default) (part j + 9 * q)) ∧ ∀ j : Nat, s.2.2 ≤ (j : Int) → s.1.getD j default = fs.getD j default) (fun s => fs.length - s.2.2.toNat) ?_ ⟨rfl, by dsimp only; omega, by dsimp only; exact hp0.symm, by intro j hj; dsimp only at hj; omega, fun _ _ => rfl⟩
  rintro ⟨x, c, i⟩ next ⟨h1, h2, h3, h4, h5⟩ hn
  dsimp only at h1 h2 h3 h4 h5 ⊢
  split
  · rename_i hi
    refine ⟨by omega, ?_⟩
    have hin : i.toNat < fs.length := by omega
    have hxi : x.getD i.toNat default = fs.getD i.toNat default := h5 _ (by omega)
    have hs := hps i.toNat hin
    have hb := hmono (i.toNat + 1) (by omega)
    have hb0 := hmono i.toNat (by omega)
    rw [hxi]
    refine m_markTermS (by rw [h3]; omega) fun y hy ht => ?_
    rw [i64_in (i + 1) (by omega)]
    refine hn _ ⟨by simpa using h1, by dsimp only; omega, by dsimp only; rw [show (i + 1).toNat = i.toNat + 1 by omega, hs, h3], fun j hj => ?_, fun j hj => ?_⟩ (by dsimp only; omega)
    · dsimp only at hj ⊢
      rw [set_getD (by omega)]
      split
      · rename_i e
        subst e
        refine ⟨hy, fun q hq => ?_⟩
        have := ht q hq
        rwa [h3] at this
      · exact h4 j (by omega)
    · dsimp only at hj ⊢
      rw [set_getD (by omega), if_neg (by omega)]
      exact h5 j (by omega)
  · rename_i hi
    have hie : i.toNat = fs.length := by omega
    have hc : c = part fs.length := by rw [h3, hie]
    have hb := hmono fs.length (Nat.le_refl _)
    rw [hc]
    refine h x _ (by omega) hb.2 fun K' hK' => ?_
    unfold f_laws_heldFormS
    refine forN_inv (fun j (s : Int) => s = part j) x.length ?_ ?_ _ _ _ (by omega) hp0.symm
    · intro j s next hj hs hn'
      obtain ⟨g1, g2⟩ := h4 j (by omega)
      have hsj := hps j (by omega)
      have hb1 := hmono (j + 1) (by omega)
      have hb0 := hmono j (by omega)
      refine held_terms (by rw [hs, g1]; omega) (fun q hq => by rw [hs]; exact g2 q hq) ?_
      rw [if_neg (by rw [hs, g1]; omega)]
      exact hn' _ (by rw [hs, g1, hsj])
    · intro s hs
      rw [hs, h1]; exact hK'
theorem m_form1 {p : A8} {K : Vc.Form → Int → Prop} (hp : ∀ i, i < 8 → 0 ≤ p.get i ∧ p.get i ≤ 20) (h : K ⟨[⟨p, 1⟩]⟩ 0) : f_impl_sum_form (mset ([] : List (A8 × Int)) p 1) K := by
  refine m_form (by simp [mset]) ?_ ?_ ?_
  · intro q hq
    obtain rfl : q = (p, 1) := by simpa [mset] using hq
    intro x hx
    obtain ⟨i, hi, rfl⟩ := A8.mem_list.1 hx
    have := hp i hi
    dsimp only; omega
  · rintro ⟨q, hq, i, hi, hgt⟩
    obtain rfl : q = (p, 1) := by simpa [mset] using hq
    have := hp i hi
    dsimp only at hgt; omega
  · intro hle xs hperm hw
    obtain rfl : xs = [p] := by simpa [mset] using hperm
    simpa [mset, mget] using h
theorem set0_get {v : Int} (hv : 0 ≤ v ∧ v ≤ 20) {j : Nat} (hj : j < 8) : ∀ i, i < 8 → 0 ≤ (A8.zero.set j v).get i ∧ (A8.zero.set j v).get i ≤ 20 := by
  intro i hi
  rw [A8.get_set hj]
  split
  · exact hv
  · rw [A8.get_zero]; omega
def genF (i : Nat) : Vc.Form := ⟨[⟨A8.zero.set i 1, 1⟩]⟩
def genL (n : Nat) : List Vc.Form := (List.range n).map genF
theorem genL_succ (n : Nat) : genL (n + 1) = genL n ++ [genF n] := by simp [genL, List.range_succ]
theorem genL_len (n : Nat) : (genL n).length = n := by simp [genL]
theorem m_l04Generator {i : Int} {K : Vc.Form → Prop} (hi : 0 ≤ i ∧ i < 8) (h : K (genF i.toNat)) : f_spec_l04Generator i K := by
  unfold f_spec_l04Generator
  exact ⟨hi, m_l01Single1 h⟩
theorem m_generatorForm {i : Int} {K : Vc.Form → Prop} (hi : 0 ≤ i ∧ i < 8) (h : K (genF i.toNat)) : f_impl_generatorForm i 1 K := by
  unfold f_impl_generatorForm f_impl_generator
  exact ⟨hi, m_form1 (set0_get (by omega) (by omega)) h⟩
theorem m_generators {n : Int} {K : List Vc.Form → Prop} (hn : 0 ≤ n ∧ n ≤ 8) (h : K (genL n.toNat)) : f_impl_generators 0 n K := by
  unfold f_impl_generators
  refine whileP_inv (fun (s : List Vc.Form × Int) => 0 ≤ s.2 ∧ s.2 ≤ n ∧ s.1 = genL s.2.toNat) (fun s => n.toNat - s.2.toNat) ?_ ⟨Int.le_refl _, by dsimp only; omega, rfl⟩
  rintro ⟨s, i⟩ next ⟨h1, h2, h3⟩ hn'
  dsimp only at h1 h2 h3 hn' ⊢
  split
  · rename_i hi
    rw [i64_in (0 + i) (by omega), Int.zero_add, i64_in (i + 1) (by omega)]
    refine m_generatorForm (by omega) ⟨by rw [h3, genL_len]; unfold Room; omega, hn' _ ⟨by dsimp only; omega, by dsimp only; omega, ?_⟩ (by dsimp only; omega)⟩
    dsimp only
    rw [show (i + 1).toNat = i.toNat + 1 by omega, genL_succ, h3]
  · rename_i hi
    rw [h3, show i.toNat = n.toNat by omega]; exact h
theorem same_FormS {l : List Vc.Form} {K : Bool → Prop} (h : K true) : f_laws_eqFormS l l K := m_eqFormS (by simpa using h)
theorem genL_cnt (n : Nat) : cnt (genL n) = n := by
  induction n with
  | zero => rfl
  | succ n ih => rw [genL_succ]; unfold cnt at *; simp [ih, genF]
theorem m_specId {a : Alg} {K : List Vc.Form → Int → Prop} (hf : FitAlg a) (h1 : OkAlg a → K (genL a.degrees.length) 0) (h2 : ¬ OkAlg a → K [] 1) : f_spec_IdentityMap a K := by
  unfold f_spec_IdentityMap
  refine m_l02Is hf (fun ok => ?_) (fun no => ?_)
  · rw [if_neg (by simp)]
    have h8 := ok.deg.1
    refine whileP_inv (fun (s : List Vc.Form × Int) => 0 ≤ s.2 ∧ s.2 ≤ a.degrees.length ∧ s.1 = genL s.2.toNat) (fun s => a.degrees.length - s.2.toNat) ?_ ⟨Int.le_refl _, by dsimp only; omega, rfl⟩
    rintro ⟨s, i⟩ next ⟨k1, k2, k3⟩ hn'
    dsimp only at k1 k2 k3 hn' ⊢
    split
    · rename_i hi
      rw [i64_in (i + 1) (by omega)]
      refine m_l04Generator (by omega) ⟨by rw [k3, genL_len]; unfold Room; omega, hn' _ ⟨by dsimp only; omega, by dsimp only; omega, ?_⟩ (by dsimp only; omega)⟩
      dsimp only
      rw [show (i + 1).toNat = i.toNat + 1 by omega, genL_succ, k3]
    · rename_i hi
      rw [k3, show i.toNat = a.degrees.length by omega]; exact h1 ok
  · rw [if_pos (by simp)]
    exact h2 no
theorem m_implId {a : Alg} {K : List Vc.Form → Int → Prop} (hf : FitAlg a) (h1 : OkAlg a → K (genL a.degrees.length) 0) (h2 : ¬ OkAlg a → K [] 1) : f_impl_IdentityMap a K := by
  unfold f_impl_IdentityMap
  refine m_algebraCode0 hf (fun ok => ?_) (fun no => ?_)
  · rw [if_neg (by omega)]
    have h8 := ok.deg.1
    exact m_generators (by omega) (by rw [show ((a.degrees.length : Int)).toNat = a.degrees.length by omega]; exact h1 ok)
  · rw [if_pos (by omega)]
    exact h2 no
theorem pure_IdentityMap (a : Alg) (hg : GoodAlg a) (hb : LenAlg a) : f_laws_FnExactIdentityMap a (fun r => r = true) := by
  unfold f_laws_FnExactIdentityMap
  refine m_szAlgebraB hb (fun r hr hr2 d1 d2 d3 => ?_) (fun r hr => by rw [if_pos hr])
  rw [if_neg (by omega)]
  have hf := hg.fit d3
  refine m_toAlgebra d1 d2 d3 ?_
  refine m_specId hf (fun ok => ?_) (fun no => ?_)
  · have h8 := ok.deg.1
    have hc : cnt (genL a.degrees.length) ≤ 8 ∧ (genL a.degrees.length).length ≤ 8 := ⟨by rw [genL_cnt]; exact h8, by rw [genL_len]; exact h8⟩
    have him : ∀ K : List Vc.Form → Int → Prop, K (genL a.degrees.length) 0 → f_impl_IdentityMap a K := fun K hK => m_implId hf (fun _ => hK) (fun n => absurd ok n)
    generalize genL a.degrees.length = F at hc him ⊢
    refine m_toAlgebra d1 d2 d3 (him _ ?_)
    refine same_FormS (not_no (ne_no ?_))
    refine m_toAlgebra d1 d2 d3 (same_Algebra (not_no ?_))
    refine m_markAlgebraN (by omega) d1 d2 d3 fun x0 n0 n1 n2 => ?_
    refine lt_no (by omega) ?_
    refine same_FormS (not_no ?_)
    refine m_markForms (by omega) (fun x3 n3 n4 n5 hh => ?_) (by omega)
    refine hh _ (lt_no (by omega) (ne_no ?_))
    refine m_toAlgebra (a := a) d1 d2 d3 (him _ (same_FormS (not_no (ne_no ?_))))
    exact hh _ (lt_no (by omega) (ne_no rfl))
  · have hc : cnt ([] : List Vc.Form) ≤ 8 ∧ ([] : List Vc.Form).length ≤ 8 := by simp [cnt]
    have him : ∀ K : List Vc.Form → Int → Prop, K [] 1 → f_impl_IdentityMap a K := fun K hK => m_implId hf (fun y => absurd y no) (fun _ => hK)
    generalize ([] : List Vc.Form) = F at hc him ⊢
    refine m_toAlgebra d1 d2 d3 (him _ ?_)
    refine same_FormS (not_no (ne_no ?_))
    refine m_toAlgebra d1 d2 d3 (same_Algebra (not_no ?_))
    refine m_markAlgebraN (by omega) d1 d2 d3 fun x0 n0 n1 n2 => ?_
    refine lt_no (by omega) ?_
    refine same_FormS (not_no ?_)
    refine m_markForms (by omega) (fun x3 n3 n4 n5 hh => ?_) (by omega)
    refine hh _ (lt_no (by omega) (ne_no ?_))
    refine m_toAlgebra (a := a) d1 d2 d3 (him _ (same_FormS (not_no (ne_no ?_))))
    exact hh _ (lt_no (by omega) (ne_no rfl))
end Go.Proofs.Ytgfmflmhcfkldaa
