/- Plain laws: lists of generators; marks. -/
import Derived.Test.YtodedifhdjdmlaaVe0
set_option linter.unusedVariables false
set_option linter.unusedSimpArgs false
namespace Go.Proofs.Ytodedifhdjdmlaa
open Go Vc
theorem m_markInt64N {l : List Int} {m : Int} {K : Int → List Int → Prop} (hm : 0 ≤ m ∧ m + l.length ≤ 4611686018427387904) (h : ∀ x', K (m + l.length) x') : f_laws_markInt64S l m K := by
  unfold f_laws_markInt64S
  refine whileP_inv (fun (s : List Int × Int × Int) => s.1.length = l.length ∧ (0 ≤ s.2.2 ∧ s.2.2 ≤ l.length) ∧ s.2.1 = m + s.2.2) (fun s => l.length - s.2.2.toNat) ?_ ⟨rfl, by dsimp only; omega, by simp⟩
  rintro ⟨x, c, i⟩ next ⟨h1, h2, h3⟩ hn
  dsimp only at h1 h2 h3 ⊢
  split
  · rename_i hi
    refine ⟨by omega, ?_⟩
    rw [i64_in (c + 1) (by omega), i64_in (i + 1) (by omega)]
    exact hn _ ⟨by simpa using h1, by dsimp only; omega, by dsimp only; omega⟩ (by dsimp only; omega)
  · rename_i hi
    have hc : c = m + l.length := by omega
    rw [hc]
    exact h x
def cnt (fs : List Vc.Form) : Nat := (fs.map (fun f => f.terms.length)).sum
theorem cnt_bd {fs : List Vc.Form} {B : Nat} (h : ∀ i, i < fs.length → (fs.getD i default).terms.length ≤ B) : cnt fs ≤ fs.length * B := by
  induction fs with
  | nil => simp [cnt]
  | cons f fs ih =>
    have h0 := h 0 (by simp)
    have h1 := ih fun i hi => by have := h (i + 1) (by simpa using hi); simpa using this
    simp only [List.getD_cons_zero] at h0
    simp only [cnt, List.map_cons, List.sum_cons, List.length_cons, Nat.add_mul, Nat.one_mul] at h1 ⊢
    omega
theorem m_markFormsN {fs : List Vc.Form} {m : Int} {K : Int → List Vc.Form → Prop} (hm : 0 ≤ m ∧ m + 9 * cnt fs ≤ 4611686018427387904) (h : ∀ x' n, 0 ≤ n → n ≤ m + 9 * cnt fs → K n x') (hl : fs.length ≤ 1048576) : f_laws_markFormS fs m K := by
  unfold f_laws_markFormS
  let part (i : Nat) : Int := m + 9 * cnt (fs.take i)
  have hp0 : part 0 = m := by simp [part, cnt]
  have hps : ∀ i, i < fs.length → part (i + 1) = part i + 9 * (fs.getD i default).terms.length := by
    intro i hi
    simp only [part, cnt, List.take_add_one, List.getElem?_eq_getElem hi, Option.toList_some, List.map_append, List.sum_append, List.map_cons, List.map_nil, List.sum_cons, List.sum_nil, List.getD, Option.getD_some]
    omega
  have hpl : part fs.length = m + 9 * cnt fs := by simp [part]
  have hmono : ∀ i, i ≤ fs.length → m ≤ part i ∧ part i ≤ m + 9 * cnt fs := by
    intro i hi
    have : cnt fs = cnt (fs.take i) + cnt (fs.drop i) := by
      unfold cnt; rw [← List.sum_append, ← List.map_append, List.take_append_drop]
    simp only [part]; omega
  refine whileP_inv (fun (s : List Vc.Form × Int × Int) => s.1.length = fs.length ∧ (0 ≤ s.2.2 ∧ s.2.2 ≤ fs.length) ∧ s.2.1 = part s.2.2.toNat ∧ ∀ j : Nat, s.2.2 ≤ (j : Int) → s.1.getD j default = fs.getD j default) (fun s => fs.length - s.2.2.toNat) ?_ ⟨rfl, by dsimp only; omega, by dsimp only; exact hp0.symm, fun _ _ => rfl⟩
  rintro ⟨x, c, i⟩ next ⟨h1, h2, h3, h5⟩ hn
  dsimp only at h1 h2 h3 h5 ⊢
  split
  · rename_i hi
    refine ⟨by omega, ?_⟩
    have hin : i.toNat < fs.length := by omega
    have hxi : x.getD i.toNat default = fs.getD i.toNat default := h5 _ (by omega)
    have hs := hps i.toNat hin
    have hb := hmono (i.toNat + 1) (by omega)
    have hb0 := hmono i.toNat (by omega)
    rw [hxi]
    refine m_markTermS (by rw [h3]; omega) fun y hy ht => ?_
    rw [i64_in (i + 1) (by omega)]
    refine hn _ ⟨by simpa using h1, by dsimp only; omega, by dsimp only; rw [show (i + 1).toNat = i.toNat + 1 by omega, hs, h3], fun j hj => ?_⟩ (by dsimp only; omega)
    · dsimp only at hj ⊢
      rw [set_getD (by omega), if_neg (by omega)]
      exact h5 j (by omega)
  · rename_i hi
    have hie : i.toNat = fs.length := by omega
    have hc : c = part fs.length := by rw [h3, hie]
    have hb := hmono fs.length (Nat.le_refl _)
    rw [hc]
    exact h x _ (by omega) hb.2
theorem m_markAlgebraN {a : Alg} {m : Int} {K : Int → Alg → Prop} (hm : 0 ≤ m ∧ m ≤ 100000000000000000) (h1 : a.degrees.length ≤ 1048576) (h2 : a.images.length ≤ 1048576) (h3 : ∀ i, i < a.images.length → (a.images.getD i default).terms.length ≤ 1048576) (h : ∀ x' n, 0 ≤ n → n ≤ m + 10000000000000 → K n x') : f_laws_markAlgebra a m K := by
  unfold f_laws_markAlgebra
  have hc := cnt_bd h3
  have hc2 : a.images.length * 1048576 ≤ 1048576 * 1048576 := Nat.mul_le_mul_right _ h2
  refine m_markInt64N (by omega) fun d => ?_
  exact m_markFormsN (by omega) (fun fs n h0 hn => h _ n h0 (by omega)) (by omega)
theorem m_markForms {fs : List Vc.Form} {m : Int} {K : Int → List Vc.Form → Prop} (hm : 0 ≤ m ∧ m + 9 * cnt fs ≤ 4611686018427387904) (h : ∀ x' n, 0 ≤ n → n ≤ m + 9 * cnt fs → (∀ K' : Int → Prop, K' n → f_laws_heldFormS x' m K') → K n x') (hl : fs.length ≤ 1000000) : f_laws_markFormS fs m K := by
  unfold f_laws_markFormS
  let part (i : Nat) : Int := m + 9 * cnt (fs.take i)
  have hp0 : part 0 = m := by simp [part, cnt]
  have hps : ∀ i, i < fs.length → part (i + 1) = part i + 9 * (fs.getD i default).terms.length := by
    intro i hi
    simp only [part, cnt, List.take_add_one, List.getElem?_eq_getElem hi, Option.toList_some, List.map_append, List.sum_append, List.map_cons, List.map_nil, List.sum_cons, List.sum_nil, List.getD, Option.getD_some]
    omega
  have hpl : part fs.length = m + 9 * cnt fs := by simp [part]
  have hmono : ∀ i, i ≤ fs.length → m ≤ part i ∧ part i ≤ m + 9 * cnt fs := by
    intro i hi
    have : cnt fs = cnt (fs.take i) + cnt (fs.drop i) := by
      unfold cnt; rw [← List.sum_append, ← List.map_append, List.take_append_drop]
    simp only [part]; omega
  refine whileP_inv (fun (s : List Vc.Form × Int × Int) => s.1.length = fs.length ∧ (0 ≤ s.2.2 ∧ s.2.2 ≤ fs.length) ∧ s.2.1 = part s.2.2.toNat ∧ (∀ j : Nat, (j : Int) < s.2.2 → (s.1.getD j default).terms.length = (fs.getD j default).terms.length ∧ ∀ q, q < (s.1.getD j default).terms.length → TermAt ((s.1.getD j default).terms.getD q default) (part j + 9 * q)) ∧ ∀ j : Nat, s.2.2 ≤ (j : Int) → s.1.getD j default = fs.getD j default) (fun s => fs.length - s.2.2.toNat) ?_ ⟨rfl, by dsimp only; omega, by dsimp only; exact hp0.symm, by intro j hj; dsimp only at hj; omega, fun _ _ => rfl⟩
  rintro ⟨x, c, i⟩ next ⟨h1, h2, h3, h4, h5⟩ hn
  dsimp only at h1 h2 h3 h4 h5 ⊢
  split
  · rename_i hi
    refine ⟨by omega, ?_⟩
    have hin : i.toNat < fs.length := by omega
    have hxi : x.getD i.toNat default = fs.getD i.toNat default := h5 _ (by omega)
    have hs := hps i.toNat hin
    have hb := hmono (i.toNat + 1) (by omega)
    have hb0 := hmono i.toNat (by omega)
    rw [hxi]
    refine m_markTermS (by rw [h3]; omega) fun y hy ht => ?_
    rw [i64_in (i + 1) (by omega)]
    refine hn _ ⟨by simpa using h1, by dsimp only; omega, by dsimp only; rw [show (i + 1).toNat = i.toNat + 1 by omega, hs, h3], fun j hj => ?_, fun j hj => ?_⟩ (by dsimp only; omega)
    · dsimp only at hj ⊢
      rw [set_getD (by omega)]
      split
      · rename_i e
        subst e
        refine ⟨hy, fun q hq => ?_⟩
        have := ht q hq
        rwa [h3] at this
      · exact h4 j (by omega)
    · dsimp only at hj ⊢
      rw [set_getD (by omega), if_neg (by omega)]
      exact h5 j (by omega)
  · rename_i hi
    have hie : i.toNat = fs.length := by omega
    have hc : c = part fs.length := by rw [h3, hie]
    have hb := hmono fs.length (Nat.le_refl _)
    rw [hc]
    refine h x _ (by omega) hb.2 fun K' hK' => ?_
    unfold f_laws_heldFormS
    refine forN_inv (fun j (s : Int) => s = part j) x.length ?_ ?_ _ _ _ (by omega) hp0.symm
    · intro j s next hj hs hn'
      obtain ⟨g1, g2⟩ := h4 j (by omega)
      have hsj := hps j (by omega)
      have hb1 := hmono (j + 1) (by omega)
      have hb0 := hmono j (by omega)
      refine held_terms (by rw [hs, g1]; omega) (fun q hq => by rw [hs]; exact g2 q hq) ?_
      rw [if_neg (by rw [hs, g1]; omega)]
      exact hn' _ (by rw [hs, g1, hsj])
    · intro s hs
      rw [hs, h1]; exact hK'
theorem m_form1 {p : A8} {K : Vc.Form → Int → Prop} (hp : ∀ i, i < 8 → 0 ≤ p.get i ∧ p.get i ≤ 20) (h : K ⟨[⟨p, 1⟩]⟩ 0) : f_impl_sum_form (mset ([] : List (A8 × Int)) p 1) K := by
  refine m_form (by simp [mset]) ?_ ?_ ?_
  · intro q hq
    obtain rfl : q = (p, 1) := by simpa [mset] using hq
    intro x hx
    obtain ⟨i, hi, rfl⟩ := A8.mem_list.1 hx
    have := hp i hi
    dsimp only; omega
  · rintro ⟨q, hq, i, hi, hgt⟩
    obtain rfl : q = (p, 1) := by simpa [mset] using hq
    have := hp i hi
    dsimp only at hgt; omega
  · intro hle xs hperm hw
    obtain rfl : xs = [p] := by simpa [mset] using hperm
    simpa [mset, mget] using h
theorem set0_get {v : Int} (hv : 0 ≤ v ∧ v ≤ 20) {j : Nat} (hj : j < 8) : ∀ i, i < 8 → 0 ≤ (A8.zero.set j v).get i ∧ (A8.zero.set j v).get i ≤ 20 := by
  intro i hi
  rw [A8.get_set hj]
  split
  · exact hv
  · rw [A8.get_zero]; omega
def genF (i : Nat) : Vc.Form := ⟨[⟨A8.zero.set i 1, 1⟩]⟩
def genL (n : Nat) : List Vc.Form := (List.range n).map genF
theorem genL_succ (n : Nat) : genL (n + 1) = genL n ++ [genF n] := by simp [genL, List.range_succ]
theorem genL_len (n : Nat) : (genL n).length = n := by simp [genL]
theorem m_l04Generator {i : Int} {K : Vc.Form → Prop} (hi : 0 ≤ i ∧ i < 8) (h : K (genF i.toNat)) : f_spec_l04Generator i K := by
  unfold f_spec_l04Generator
  exact ⟨hi, m_l01Single1 h⟩
theorem m_generatorForm {i : Int} {K : Vc.Form → Prop} (hi : 0 ≤ i ∧ i < 8) (h : K (genF i.toNat)) : f_impl_generatorForm i 1 K := by
  unfold f_impl_generatorForm f_impl_generator
  exact ⟨hi, m_form1 (set0_get (by omega) (by omega)) h⟩
theorem genO_succ (from_ n : Nat) : (List.range (n + 1)).map (fun i => genF (from_ + i)) = (List.range n).map (fun i => genF (from_ + i)) ++ [genF (from_ + n)] := by simp [List.range_succ]
def genO (from_ n : Nat) : List Vc.Form := (List.range n).map (fun i => genF (from_ + i))
theorem genO_len (a n : Nat) : (genO a n).length = n := by simp [genO]
theorem m_generators {o n : Int} {K : List Vc.Form → Prop} (ho : 0 ≤ o) (hn : 0 ≤ n ∧ o + n ≤ 8) (h : K (genO o.toNat n.toNat)) : f_impl_generators o n K := by
  unfold f_impl_generators
  refine whileP_inv (fun (s : List Vc.Form × Int) => 0 ≤ s.2 ∧ s.2 ≤ n ∧ s.1 = genO o.toNat s.2.toNat) (fun s => n.toNat - s.2.toNat) ?_ ⟨Int.le_refl _, by dsimp only; omega, rfl⟩
  rintro ⟨s, i⟩ next ⟨h1, h2, h3⟩ hn'
  dsimp only at h1 h2 h3 hn' ⊢
  split
  · rename_i hi
    rw [i64_in (o + i) (by omega), i64_in (i + 1) (by omega)]
    refine m_generatorForm (by omega) ⟨by rw [h3, genO_len]; unfold Room; omega, hn' _ ⟨by dsimp only; omega, by dsimp only; omega, ?_⟩ (by dsimp only; omega)⟩
    dsimp only
    rw [show (i + 1).toNat = i.toNat + 1 by omega, genO, genO_succ, h3, show (o + i).toNat = o.toNat + i.toNat by omega]
    rfl
  · rename_i hi
    rw [h3, show i.toNat = n.toNat by omega]; exact h
theorem genO_cnt (a n : Nat) : cnt (genO a n) = n := by
  induction n with
  | zero => rfl
  | succ n ih => rw [genO, genO_succ]; rw [genO] at ih; unfold cnt at *; rw [List.map_append, List.sum_append, ih]; simp [genF]
theorem genO_zero (n : Nat) : genO 0 n = genL n := by simp [genO, genL]
theorem m_szAlgebraG {a : Alg} {n : Int} {K : Int → Prop} (hn : 0 ≤ n ∧ n ≤ 1048576) (hb : LenAlg a) (h1 : ∀ r, 0 ≤ r → r ≤ n → a.degrees.length ≤ 1048576 → a.images.length ≤ 1048576 → (∀ i, i < a.images.length → (a.images.getD i default).terms.length ≤ 1048576) → K r) (h2 : ∀ r, r < 0 → K r) : f_laws_szAlgebra a n K := by
  unfold f_laws_szAlgebra f_laws_szInt64S
  have hd := hb.deg
  unfold Big at hd
  rw [i64_in _ (by omega)]
  split
  · dsimp only; rw [if_pos (by omega)]; exact h2 _ (by omega)
  · dsimp only; rw [if_neg (by omega)]
    refine m_szFormS hb.img hb.trm (by omega) (fun r g1 g2 g3 g4 => ?_) (fun r hr => by rw [if_pos hr]; exact h2 _ (by omega))
    rw [if_neg (by omega)]
    exact h1 r g1 (by omega) (by omega) (by omega) g4
theorem same_FormS {l : List Vc.Form} {K : Bool → Prop} (h : K true) : f_laws_eqFormS l l K := m_eqFormS (by simpa using h)
theorem genL_cnt (n : Nat) : cnt (genL n) = n := by
  induction n with
  | zero => rfl
  | succ n ih => rw [genL_succ]; unfold cnt at *; simp [ih, genF]
end Go.Proofs.Ytodedifhdjdmlaa
