/- Plain law of row 14. -/
import Derived.Test.YtaagfepgbofmlaaVd2
import Derived.Test.YtaagfepgbofmlaaVh2
import Derived.Test.YtaagfepgbofmlaaGL6
set_option linter.unusedVariables false
set_option linter.unusedSimpArgs false
namespace Go.Proofs.Ytaagfepgbofmlaa
open Go Vc
theorem k2 {K : Int → Int → Prop} {a b c d : Int} (h : K a b) (e1 : c = a) (e2 : d = b) : K c d := by rw [e1, e2]; exact h
theorem m_Mul {n : Nat} (hn : n = 3 ∨ n = 5 ∨ n = 7) {K : Int → Int → Prop} (h : K 0 n) : f_bits_Mul (IntKind.u64.wrap ((([1] : List Int).length : Nat) : Int)) (IntKind.u64.wrap (n : Int)) K := by
  unfold f_bits_Mul f_bits_Mul64
  rcases hn with rfl | rfl | rfl <;> exact k2 h (by decide +kernel) (by decide +kernel)
theorem paste_ones : ∀ n : Nat, n ≤ 8 → ∀ j : Nat, j ≤ n → pasteL (List.replicate j (1 : Int) ++ List.replicate (n - j) 0) j ((List.replicate j (1 : Int) ++ List.replicate (n - j) 0).take j) = List.replicate (min (2 * j) n) 1 ++ List.replicate (n - min (2 * j) n) 0 := by
  intro n hn
  match n, hn with
  | 0, _ | 1, _ | 2, _ | 3, _ | 4, _ | 5, _ | 6, _ | 7, _ | 8, _ => decide +kernel
theorem m_Repeat {n : Nat} (hn : n = 3 ∨ n = 5 ∨ n = 7) {K : List Int → Prop} (h : K (List.replicate n 1)) : f_slices_Repeat_int64_int64 [1] (n : Int) K := by
  unfold f_slices_Repeat_int64_int64
  refine ⟨by omega, m_Mul hn ?_⟩
  rw [if_neg (by decide), i64_in _ (by omega)]
  refine ⟨by omega, ⟨by omega, by omega⟩, ?_⟩
  refine whileP_inv (fun (s : List Int × Int) => ∃ j : Nat, 1 ≤ j ∧ j ≤ n ∧ s.2 = j ∧ s.1 = List.replicate j 1 ++ List.replicate (n - j) 0) (fun s => n - s.2.toNat) ?_ ⟨1, Nat.le_refl _, by omega, ?_, ?_⟩
  · rintro ⟨r, i⟩ next ⟨j, h1, h2, e1, e2⟩ hnx
    dsimp only at e1 e2 ⊢
    subst e1; subst e2
    have hl : (List.replicate j (1 : Int) ++ List.replicate (n - j) 0).length = n := by simp; omega
    rw [hl, Int.toNat_natCast]
    split
    · rename_i q
      refine ⟨⟨by omega, by omega⟩, ⟨by omega, by omega⟩, ?_⟩
      rw [paste_ones n (by omega) j h2, i64_in _ (by omega)]
      refine hnx _ ⟨min (2 * j) n, by omega, by omega, by dsimp only; omega, rfl⟩ (by dsimp only; omega)
    · rename_i q
      obtain rfl : j = n := by omega
      rw [Nat.sub_self]
      simpa using h
  · dsimp only
    rw [List.length_replicate]
    simp
    omega
  · dsimp only
    rcases hn with rfl | rfl | rfl <;> decide +kernel
theorem m_l08Ones {n : Int} (h0 : 0 ≤ n) (h1 : n ≤ 8) {K : List Int → Prop} (h : K (List.replicate n.toNat 1)) : f_spec_l08Ones n K := by
  unfold f_spec_l08Ones
  refine whileP_inv (fun (s : List Int × Int) => 0 ≤ s.2 ∧ s.2 ≤ n ∧ s.1 = List.replicate (n - s.2).toNat 1) (fun s => s.2.toNat) ?_ ⟨h0, Int.le_refl _, by simp⟩
  rintro ⟨s, i⟩ next ⟨g1, g2, g3⟩ hn
  dsimp only at g1 g2 g3 hn ⊢
  subst g3
  split
  · rename_i q
    refine ⟨by unfold Room; rw [List.length_replicate]; omega, ?_⟩
    rw [i64_in _ (by omega)]
    refine hn _ ⟨by dsimp only; omega, by dsimp only; omega, ?_⟩ (by dsimp only; omega)
    dsimp only
    rw [show (n - (i - 1)).toNat = (n - i).toNat + 1 by omega, List.replicate_succ']
  · rename_i q
    obtain rfl : i = 0 := by omega
    simpa using h
theorem m_l02Free {l : List Int} (hl : l.length ≤ 1000) {K : Alg → Prop} (h : K ⟨l, List.replicate l.length ⟨[]⟩⟩) : f_spec_l02Free l K := by
  unfold f_spec_l02Free f_spec_l01Own Room
  rw [Int.toNat_natCast]
  exact ⟨⟨by omega, ⟨by omega, by omega⟩, h⟩, ⟨by omega, by omega⟩, by omega, h⟩
/-! ### The form -/
def pk (k : Nat) : A8 := (A8.zero.set (2 * k) 1).set (2 * k + 1) 1
def heisL : Nat → List Term
  | 0 => []
  | k + 1 => heisL k ++ [⟨pk k, 1⟩]
theorem heis_canon {n : Nat} (hn : n ≤ 3) : Canon (heisL n) := by
  match n, hn with
  | 0, _ | 1, _ | 2, _ | 3, _ => exact ⟨by decide +kernel, by decide +kernel⟩
theorem heis_coT (k : Nat) (m : A8) : coT (heisL (k + 1)) m = coT (heisL k) m + if pk k = m then 1 else 0 := by
  rw [heisL, coT_snoc]
theorem heis_len (n : Nat) : (heisL n).length = n := by
  induction n with
  | zero => rfl
  | succ k ih => rw [heisL, List.length_append, ih]; rfl
theorem heis_low {n : Nat} (hn : n ≤ 3) : ∀ t, t ∈ heisL n → Low t.mono := by
  match n, hn with
  | 0, _ | 1, _ | 2, _ | 3, _ => decide +kernel
theorem heis_form {n : Nat} (hn : n ≤ 3) : formR (heisL n) = (⟨heisL n⟩, 0) := by
  rw [formR, if_pos ⟨by rw [heis_len]; omega, heis_low hn⟩]
def heisA (n : Nat) : Alg := ⟨List.replicate (2 * n + 1) 1, (List.replicate (2 * n + 1) ⟨[]⟩).set (2 * n) ⟨heisL n⟩⟩
def heisR (n : Int) : Alg × Int := if 1 ≤ n ∧ n ≤ 3 then (heisA n.toNat, 0) else (⟨[], []⟩, 2)
theorem m_specHeis {n : Int} {K : Alg → Int → Prop} (h : K (heisR n).1 (heisR n).2) : f_spec_HeisenbergModel n K := by
  unfold f_spec_HeisenbergModel
  refine m_l01In ?_
  by_cases hn : 1 ≤ n ∧ n ≤ 3
  · rw [heisR, if_pos hn] at h
    obtain ⟨k, rfl⟩ : ∃ k : Nat, n = k := ⟨n.toNat, by omega⟩
    rw [Int.toNat_natCast] at h
    rw [decide_eq_true hn, if_neg (by simp), i64_in (2 * (k : Int)) (by omega), i64_in _ (by omega)]
    refine m_l08Ones (by omega) (by omega) ?_
    refine m_l02Free (by rw [List.length_replicate]; omega) ?_
    simp only [List.length_replicate]
    rw [show (2 * (k : Int) + 1).toNat = 2 * k + 1 by omega]
    refine whileP_inv (fun (s : List Term × Int) => 0 ≤ s.2 ∧ s.2 ≤ k ∧ s.1 = heisL s.2.toNat) (fun s => k - s.2.toNat) ?_ ⟨Int.le_refl _, by dsimp only; omega, rfl⟩
    rintro ⟨s, i⟩ next ⟨g1, g2, g3⟩ hx
    dsimp only at g1 g2 g3 hx ⊢
    subst g3
    obtain ⟨i, rfl⟩ : ∃ j : Nat, i = j := ⟨i.toNat, by omega⟩
    rw [Int.toNat_natCast] at hx ⊢
    split
    · rename_i q
      rw [i64_in (2 * (i : Int)) (by omega), i64_in (2 * (i : Int) + 1) (by omega)]
      refine ⟨by omega, by omega, m_l01Single1 ?_⟩
      rw [show (2 * (i : Int)).toNat = 2 * i by omega, show (2 * (i : Int) + 1).toNat = 2 * i + 1 by omega]
      refine m_l01Add (heis_canon (by omega)) (canon1 _) (by omega) (by rw [heis_len]; omega) (by simp) fun out ho => ?_
      rw [i64_in _ (by omega)]
      refine hx _ ⟨by dsimp only; omega, by dsimp only; omega, ?_⟩ (by dsimp only; omega)
      dsimp only
      rw [show ((i : Int) + 1).toNat = i + 1 by omega]
      refine canon_mod ho.can (heis_canon (by omega)) fun m => ?_
      rw [ho.cf, heis_coT]
      congr 1
      rw [Int.one_mul]
      show _ + ((if pk i = m then (1 : Int) else 0) + 0) = _
      omega
    · rename_i q
      obtain rfl : i = k := by omega
      refine ⟨⟨by omega, ?_⟩, ?_⟩
      · omega
      · rw [show (2 * (i : Int)).toNat = 2 * i by omega]
        exact h
  · rw [heisR, if_neg hn] at h
    rw [decide_eq_false hn, if_pos (by simp)]
    exact h
theorem m_Torus {n : Nat} (hn : n = 3 ∨ n = 5 ∨ n = 7) {K : Alg → Int → Prop} (h : K ⟨List.replicate n 1, List.replicate n ⟨[]⟩⟩ 0) : f_impl_TorusModel (n : Int) K := by
  unfold f_impl_TorusModel
  refine m_within ?_
  rw [decide_eq_true (by omega), if_neg (by simp), Int.toNat_natCast]
  exact ⟨⟨m_Repeat hn ⟨by omega, h⟩, by omega, m_Repeat hn h⟩, by omega, m_Repeat hn h⟩
theorem pk_ok {k : Nat} (hk : k ≤ 2) : OkP (pk k) := okP_get fun i hi => by
  unfold pk
  rw [A8.get_set (by omega)]
  split
  · omega
  · rw [A8.get_set (by omega)]
    split
    · omega
    · rw [A8.get_zero]; omega
theorem heis_off {k : Nat} (hk : k ≤ 2) : coT (heisL k) (pk k) = 0 := by
  match k, hk with
  | 0, _ | 1, _ | 2, _ => decide +kernel
theorem m_implHeis {n : Int} {K : Alg → Int → Prop} (h : K (heisR n).1 (heisR n).2) : f_impl_HeisenbergModel n K := by
  unfold f_impl_HeisenbergModel
  refine m_within ?_
  by_cases hn : 1 ≤ n ∧ n ≤ 3
  · rw [heisR, if_pos hn] at h
    obtain ⟨k, rfl⟩ : ∃ k : Nat, n = k := ⟨n.toNat, by omega⟩
    rw [Int.toNat_natCast] at h
    rw [decide_eq_true hn, if_neg (by simp), i64_in (2 * (k : Int)) (by omega), i64_in _ (by omega)]
    rw [show (2 * (k : Int) + 1) = ((2 * k + 1 : Nat) : Int) by omega]
    refine m_Torus (by omega) ?_
    refine whileP_inv (fun (s : List (A8 × Int) × Int) => 0 ≤ s.2 ∧ s.2 ≤ k ∧ MapOk s.1 ∧ (∀ p, p ∈ s.1 → OkP p.1) ∧ ∀ m, co s.1 m = coT (heisL s.2.toNat) m) (fun s => k - s.2.toNat) ?_ ⟨Int.le_refl _, by dsimp only; omega, MapOk.nil, by simp, fun m => rfl⟩
    rintro ⟨s, i⟩ next ⟨g1, g2, g3, g4, g5⟩ hx
    dsimp only at g1 g2 g3 g4 g5 hx ⊢
    obtain ⟨i, rfl⟩ : ∃ j : Nat, i = j := ⟨i.toNat, by omega⟩
    rw [Int.toNat_natCast] at hx g5
    split
    · rename_i q
      rw [i64_in (2 * (i : Int)) (by omega), i64_in (2 * (i : Int) + 1) (by omega)]
      unfold f_impl_generator
      refine ⟨by omega, by omega, ?_⟩
      rw [show (2 * (i : Int)).toNat = 2 * i by omega, show (2 * (i : Int) + 1).toNat = 2 * i + 1 by omega, i64_in _ (by omega)]
      refine hx _ ⟨by dsimp only; omega, by dsimp only; omega, g3.put (by decide), ?_, ?_⟩ (by dsimp only; omega)
      · intro p hp
        rcases mset_mem hp with rfl | q2
        · exact pk_ok (by omega)
        · exact g4 p q2
      · intro m
        dsimp only
        rw [show ((i : Int) + 1).toNat = i + 1 by omega, co_mset g3.1, heis_coT]
        show (if m = pk i then 1 else co s m) = _
        by_cases e : m = pk i
        · subst e; rw [if_pos rfl, if_pos rfl, heis_off (by omega)]; rfl
        · rw [if_neg e, if_neg (fun z => e z.symm), g5]; omega
    · rename_i q
      obtain rfl : i = k := by omega
      refine m_formG g3 g4 fun l cl cc _ => ?_
      obtain rfl : l = heisL i := canon_ext _ _ cl (heis_canon (by omega)) fun m => (cc m).trans (g5 m)
      rw [heis_form (by omega)]
      refine ⟨⟨by omega, ?_⟩, ?_⟩
      · simp only [List.length_replicate]; omega
      · rw [show (2 * (i : Int)).toNat = 2 * i by omega]
        exact h
  · rw [heisR, if_neg hn] at h
    rw [decide_eq_false hn, if_pos (by simp)]
    exact h
theorem heis_small (n : Int) : SmallAlg (heisR n).1 := by
  unfold heisR
  split
  · rename_i hn
    obtain ⟨k, rfl⟩ : ∃ k : Nat, n = k := ⟨n.toNat, by omega⟩
    rw [Int.toNat_natCast]
    refine ⟨?_, ?_, ?_⟩
    · show (List.replicate _ _).length ≤ _; rw [List.length_replicate]; omega
    · show ((List.replicate _ _).set _ _).length ≤ _; rw [List.length_set, List.length_replicate]; omega
    · have hk : k = 1 ∨ k = 2 ∨ k = 3 := by omega
      rcases hk with rfl | rfl | rfl <;> decide +kernel
  · exact ⟨by simp, by simp, by simp [cnt]⟩
theorem p_HeisenbergModel (a0 : Int) (g0 : (Lit.int .i64 a0).wf = true) : f_laws_FnExactHeisenbergModel a0 (fun r => r = true) := by
  unfold f_laws_FnExactHeisenbergModel
  refine m_specHeis (m_implHeis (same_Algebra (not_no (ne_no ?_))))
  refine m_markAlgebra (by omega) (heis_small a0) fun x' n hh hn => ?_
  refine hh _ (lt_no hn (ne_no ?_))
  refine m_implHeis (same_Algebra (not_no (ne_no ?_)))
  exact hh _ (lt_no hn (ne_no rfl))
end Go.Proofs.Ytaagfepgbofmlaa
