/- Plain laws: inverses; products of monomials the other way round. -/
import Derived.Test.YtaagfepgbofmlaaVi2
import Derived.Test.YtaagfepgbofmlaaVd2
set_option linter.unusedVariables false
set_option linter.unusedSimpArgs false
namespace Go.Proofs.Ytaagfepgbofmlaa
open Go Vc
/-! ### Inverses -/
def goN : Nat → Nat → Nat → Nat → Nat
  | 0, _, o, _ => o
  | f + 1, x, o, k => if k = 0 then o else goN f (x * x % 10007) (if k % 2 = 1 then o * x % 10007 else o) (k / 2)
def invN (x : Nat) : Nat := goN 14 x 1 10005
def chk (a : Nat) : Bool := (List.range 101).all fun b => (101 * a + b == 0) || Nat.blt 10006 (101 * a + b) || (101 * a + b) * invN (101 * a + b) % 10007 == 1
theorem chk_all : (List.range 100).all chk = true := by decide +kernel
theorem inv_right {x : Nat} (h1 : 1 ≤ x) (h2 : x ≤ 10006) : x * invN x % 10007 = 1 := by
  have h := List.all_eq_true.1 chk_all (x / 101) (List.mem_range.2 (by omega))
  have h' := List.all_eq_true.1 h (x % 101) (List.mem_range.2 (by omega))
  have e : 101 * (x / 101) + x % 101 = x := Nat.div_add_mod x 101
  rw [e] at h'
  simp only [Bool.or_eq_true, beq_iff_eq] at h'
  rcases h' with (q | q) | q
  · omega
  · rw [Nat.blt_eq] at q; omega
  · exact q
theorem goN_zero (f x o : Nat) : goN f x o 0 = o := by
  cases f with
  | zero => rfl
  | succ f => rw [goN, if_pos rfl]
theorem goN_step {f x o k : Nat} (hk : k ≠ 0) : goN (f + 1) x o k = goN f (x * x % 10007) (if k % 2 = 1 then o * x % 10007 else o) (k / 2) := by
  rw [goN, if_neg hk]
theorem goN_bd : ∀ (f x o k : Nat), o ≤ 10006 → goN f x o k ≤ 10006 := by
  intro f
  induction f with
  | zero => intro x o k h; exact h
  | succ f ih =>
    intro x o k h
    rw [goN]
    split
    · exact h
    · refine ih _ _ _ ?_
      split
      · omega
      · exact h
theorem invN_bd (x : Nat) : invN x ≤ 10006 := goN_bd _ _ _ _ (by omega)
theorem mul_bd {a b : Nat} (ha : a ≤ 10006) (hb : b ≤ 10006) : a * b ≤ 100120036 := Nat.mul_le_mul ha hb
theorem mulmod {a b : Nat} (ha : a ≤ 10006) (hb : b ≤ 10006) : Int.tmod (IntKind.i64.wrap ((a : Int) * (b : Int))) 10007 = ((a * b % 10007 : Nat) : Int) := by
  have h := mul_bd ha hb
  rw [show (a : Int) * (b : Int) = ((a * b : Nat) : Int) by simp, i64_in _ (by omega), Int.tmod_eq_emod_of_nonneg (by omega)]
  rfl
def InvSt (x : Nat) (X O k : Int) : Prop := ∃ (f x' o' k' : Nat), X = x' ∧ O = o' ∧ k = k' ∧ x' ≤ 10006 ∧ o' ≤ 10006 ∧ (k' < 2 ^ f ∧ k' ≤ 10005) ∧ goN f x' o' k' = invN x
theorem InvSt.start {x : Nat} (hx : x ≤ 10006) : InvSt x x 1 10005 := ⟨14, x, 1, 10005, rfl, rfl, rfl, hx, by omega, ⟨by decide, by omega⟩, rfl⟩
theorem InvSt.step {x : Nat} {X O k : Int} (h : InvSt x X O k) (hk : k > 0) :
    InvSt x (Int.tmod (IntKind.i64.wrap (X * X)) 10007) (if Int.tmod k 2 = 1 then Int.tmod (IntKind.i64.wrap (O * X)) 10007 else O) (IntKind.i64.wrap (Int.tdiv k 2)) ∧ (IntKind.i64.wrap (Int.tdiv k 2)).toNat < k.toNat := by
  obtain ⟨f, x', o', k', rfl, rfl, rfl, h1, h2, ⟨h3, h5⟩, h4⟩ := h
  have hk0 : k' ≠ 0 := by omega
  cases f with
  | zero => simp at h3; omega
  | succ f =>
    rw [goN_step hk0] at h4
    have e1 : Int.tdiv (k' : Int) 2 = ((k' / 2 : Nat) : Int) := by rw [Int.tdiv_eq_ediv_of_nonneg (by omega)]; rfl
    have e2 : (Int.tmod (k' : Int) 2 = 1) ↔ k' % 2 = 1 := by rw [Int.tmod_eq_emod_of_nonneg (by omega)]; omega
    rw [e1, mulmod h1 h1, i64_in ((k' / 2 : Nat) : Int) (by omega)]
    refine ⟨⟨f, _, if k' % 2 = 1 then o' * x' % 10007 else o', k' / 2, rfl, ?_, rfl, by omega, ?_, ⟨?_, by omega⟩, h4⟩, by omega⟩
    · by_cases q : k' % 2 = 1
      · rw [if_pos q, if_pos (e2.2 q), mulmod h2 h1]
      · rw [if_neg q, if_neg (fun z => q (e2.1 z))]
    · split <;> omega
    · rw [Nat.pow_succ] at h3; omega
theorem InvSt.done {x : Nat} {X O k : Int} (h : InvSt x X O k) (hk : ¬ k > 0) : O = invN x := by
  obtain ⟨f, x', o', k', rfl, rfl, rfl, h1, h2, ⟨h3, h5⟩, h4⟩ := h
  obtain rfl : k' = 0 := by omega
  rw [goN_zero] at h4; rw [h4]
theorem m_inverseI {x : Nat} (hx : x ≤ 10006) {K : Int → Prop} (h : K (invN x)) : f_impl_inverse (x : Int) K := by
  unfold f_impl_inverse
  refine whileP_inv (fun (s : Int × Int × Int) => InvSt x s.1 s.2.1 s.2.2) (fun s => s.2.2.toNat) ?_ (InvSt.start hx)
  rintro ⟨X, O, k⟩ next g hn
  dsimp only at g hn ⊢
  by_cases hk : k > 0
  · refine if_pos' hk ?_
    obtain ⟨g1, g2⟩ := g.step hk
    by_cases q : Int.tmod k 2 = 1
    · rw [if_pos q] at g1
      exact if_pos' q (hn _ g1 g2)
    · rw [if_neg q] at g1
      exact if_neg' q (hn _ g1 g2)
  · refine if_neg' hk ?_
    rw [g.done hk]; exact h
theorem m_inverseS {x : Nat} (hx : x ≤ 10006) {K : Int → Prop} (h : K (invN x)) : f_spec_l01Inverse (x : Int) K := by
  unfold f_spec_l01Inverse
  refine whileP_inv (fun (s : Int × Int × Int) => InvSt x s.2.1 s.1 s.2.2) (fun s => s.2.2.toNat) ?_ (InvSt.start hx)
  rintro ⟨O, X, k⟩ next g hn
  dsimp only at g hn ⊢
  by_cases hk : k > 0
  · refine if_pos' hk ?_
    obtain ⟨g1, g2⟩ := g.step hk
    by_cases q : Int.tmod k 2 = 1
    · rw [if_pos q] at g1
      exact if_pos' q (hn _ g1 g2)
    · rw [if_neg q] at g1
      exact if_neg' q (hn _ g1 g2)
  · refine if_neg' hk ?_
    rw [g.done hk]; exact h
/-! ### Products the other way round -/
def oE (ds : List Int) (a : A8) (j : Nat) : Int := Int.tmod (ds.getD j default) 2 * a.get j
def Apart (ds : List Int) (a b : A8) (j : Nat) : Prop := Int.tmod (ds.getD j default) 2 = 0 ∨ (Int.tmod (ds.getD j default) 2 = 1 ∧ ((a.get j = 0 ∧ (b.get j = 0 ∨ b.get j = 1)) ∨ (a.get j = 1 ∧ b.get j = 0)))
theorem tot_turn {ds : List Int} {a b : A8} : ∀ (r i : Nat), (∀ j, i ≤ j → j < i + r → Apart ds a b j) → totF ds a b r i + totF ds b a r i = cntF ds a r i * cntF ds b r i := by
  intro r
  induction r with
  | zero => intro i _; rfl
  | succ r ih =>
    intro i h
    have ih' := ih (i + 1) (fun j h1 h2 => h j (by omega) (by omega))
    simp only [totF, cntF]
    generalize totF ds a b r (i + 1) = T1 at *
    generalize totF ds b a r (i + 1) = T2 at *
    generalize cntF ds a r (i + 1) = C1 at *
    generalize cntF ds b r (i + 1) = C2 at *
    rcases h i (Nat.le_refl _) (by omega) with e | ⟨e, (⟨ea, eb | eb⟩ | ⟨ea, eb⟩)⟩
    · rw [e, if_pos (.inl rfl), if_pos (.inl rfl)]; simp; omega
    · rw [e, ea, eb]; simp; omega
    · rw [e, ea, eb]; simp [Int.mul_add]; omega
    · rw [e, ea, eb]; simp [Int.add_mul]; omega
theorem sg_eq (s t : Int) : sg s = sg t ↔ (s + t) % 2 = 0 := by
  unfold sg; split <;> split <;> simp <;> omega
theorem wt_add (ds : List Int) (a b : A8) : ∀ k, wtU ds (a.add b) k = wtU ds a k + wtU ds b k := by
  intro k
  induction k with
  | zero => rfl
  | succ k ih => simp only [wtU]; rw [ih, A8.get_add, Int.mul_add]; omega
theorem cnt_snoc (ds : List Int) (a : A8) : ∀ (r j : Nat), cntF ds a (r + 1) j = cntF ds a r j + oE ds a (j + r) := by
  intro r
  induction r with
  | zero => intro j; simp [cntF, oE]
  | succ r ih =>
    intro j
    rw [cntF, ih (j + 1), show j + 1 + r = j + (r + 1) by omega]
    simp only [cntF, oE]; omega
theorem wt_par {ds : List Int} (a : A8) : ∀ k, k ≤ ds.length → OkDeg ds → (wtU ds a k - cntF ds a k 0) % 2 = 0 := by
  intro k
  induction k with
  | zero => intro _ _; rfl
  | succ k ih =>
    intro hk hd
    have h := ih (by omega) hd
    have hdk := hd.2 k (by omega)
    rw [cnt_snoc, wtU, Nat.zero_add]
    unfold oE
    rw [Int.tmod_eq_emod_of_nonneg (by omega)]
    generalize ds.getD k default = d at *
    have e : d * a.get k = 2 * (d / 2 * a.get k) + d % 2 * a.get k := by
      rw [← Int.mul_assoc, ← Int.add_mul, Int.mul_ediv_add_emod]
    rw [e]; omega
theorem par_mul {x y c d : Int} (h1 : (x - c) % 2 = 0) (h2 : (y - d) % 2 = 0) : (x * y) % 2 = (c * d) % 2 := by
  rw [Int.mul_emod, Int.mul_emod c]
  rw [show x % 2 = c % 2 by omega, show y % 2 = d % 2 by omega]
theorem clash_comm {ds : List Int} {a b : A8} : Clash ds a b ↔ Clash ds b a :=
  ⟨fun ⟨i, h1, h2, h3, h4⟩ => ⟨i, h1, h2, h4, h3⟩, fun ⟨i, h1, h2, h3, h4⟩ => ⟨i, h1, h2, h4, h3⟩⟩
theorem add_comm8 (a b : A8) : a.add b = b.add a := A8.ext_get fun i hi => by rw [A8.get_add, A8.get_add, Int.add_comm]
theorem turned {ds : List Int} {a b : A8} (hd : OkDeg ds) (ha : OkMono ds a) (hb : OkMono ds b) (pa : ∀ i, i < 8 → 0 ≤ a.get i) (pb : ∀ i, i < 8 → 0 ≤ b.get i) (hc : ¬ Clash ds a b) :
    sg (totF ds a b ds.length 0) = sg (totF ds b a ds.length 0) ↔ (wtU ds a ds.length * wtU ds b ds.length) % 2 = 0 := by
  have h8 := hd.1
  rw [sg_eq, tot_turn ds.length 0 (fun j _ hj => ?_), par_mul (wt_par a _ (Nat.le_refl _) hd) (wt_par b _ (Nat.le_refl _) hd)]
  have hj' : j < ds.length := by omega
  rcases hd.odd hj' with e | e
  · exact .inl e
  · have a1 := ((ha j (by omega)).1 hj').2 (by rw [e]; decide)
    have b1 := ((hb j (by omega)).1 hj').2 (by rw [e]; decide)
    have a0 := pa j (by omega)
    have b0 := pb j (by omega)
    refine .inr ⟨e, ?_⟩
    by_cases q : 0 < a.get j
    · refine .inr ⟨by omega, ?_⟩
      by_cases q2 : 0 < b.get j
      · exact absurd ⟨j, hj', by rw [e]; decide, q, q2⟩ hc
      · omega
    · exact .inl ⟨by omega, by omega⟩
end Go.Proofs.Ytaagfepgbofmlaa
