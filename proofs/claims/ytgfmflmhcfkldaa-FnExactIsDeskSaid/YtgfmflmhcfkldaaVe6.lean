/- Plain law of row 8. -/
import Derived.Test.YtgfmflmhcfkldaaVd4
import Derived.Test.YtgfmflmhcfkldaaGL6
set_option linter.unusedVariables false
set_option linter.unusedSimpArgs false
namespace Go.Proofs.Ytgfmflmhcfkldaa
open Go Vc
structure LenDesk (d : Vc.Desk) : Prop where
  one : LenAlg d.first
  two : LenAlg d.second
  frm : Big d.form.terms.length
theorem desk_lens {x : Vc.Desk} {a b c d e : Value} {fp : List Nat} {w : World} (h : TDesk.rep x [a, b, c, d, e] fp w) : LenDesk x := by
  obtain ⟨h1, h2, h3⟩ := desk_parts h
  have h4 := sl_max (form_parts h3)
  exact ⟨alg_lens h1, alg_lens h2, by unfold Big; omega⟩
theorem m_szAlgebraR {a : Alg} {n : Int} {K : Int → Prop} (hb : LenAlg a) (hn : 0 ≤ n ∧ n ≤ 1048576) (h1 : ∀ r, 0 ≤ r → r ≤ 1048576 → a.degrees.length ≤ 1048576 → a.images.length ≤ 1048576 → (∀ i, i < a.images.length → (a.images.getD i default).terms.length ≤ 1048576) → K r) (h2 : ∀ r, r < 0 → K r) : f_laws_szAlgebra a n K := by
  unfold f_laws_szAlgebra f_laws_szInt64S
  have hd := hb.deg
  unfold Big at hd
  rw [i64_in _ (by omega)]
  split
  · dsimp only; rw [if_pos (by omega)]; exact h2 _ (by omega)
  · dsimp only; rw [if_neg (by omega)]
    refine m_szFormS hb.img hb.trm (by omega) (fun r g1 g2 g3 g4 => ?_) (fun r hr => by rw [if_pos hr]; exact h2 _ (by omega))
    rw [if_neg (by omega)]
    exact h1 r g1 (by omega) (by omega) (by omega) g4
structure SmallDesk (d : Vc.Desk) : Prop where
  a1 : d.first.degrees.length ≤ 1048576
  a2 : d.first.images.length ≤ 1048576
  a3 : ∀ i, i < d.first.images.length → (d.first.images.getD i default).terms.length ≤ 1048576
  b1 : d.second.degrees.length ≤ 1048576
  b2 : d.second.images.length ≤ 1048576
  b3 : ∀ i, i < d.second.images.length → (d.second.images.getD i default).terms.length ≤ 1048576
  c1 : d.form.terms.length ≤ 1048576
theorem m_szDesk {d : Vc.Desk} {K : Int → Prop} (hb : LenDesk d) (h1 : ∀ r, 0 ≤ r → SmallDesk d → K r) (h2 : ∀ r, r < 0 → K r) : f_laws_szDesk d 1048576 K := by
  unfold f_laws_szDesk
  refine m_szAlgebraR (a := d.first) hb.one (by omega) (fun r g1 g2 a1 a2 a3 => ?_) (fun r hr => by rw [if_pos hr]; exact h2 _ (by omega))
  rw [if_neg (by omega)]
  refine m_szAlgebraR (a := d.second) hb.two (by omega) (fun r k1 k2 b1 b2 b3 => ?_) (fun r hr => by rw [if_pos hr]; exact h2 _ (by omega))
  rw [if_neg (by omega)]
  refine m_szFormB (f := d.form) hb.frm (by omega) (fun hle => ?_) (fun r hr => by rw [if_pos hr]; exact h2 _ (by omega))
  rw [if_neg (by omega)]
  exact h1 _ (by omega) ⟨a1, a2, a3, b1, b2, b3, by omega⟩
theorem m_toDesk {d : Vc.Desk} {K : Vc.Desk → Prop} (hs : SmallDesk d) (h : K d) : f_laws_toDesk d K := by
  unfold f_laws_toDesk
  exact m_toAlgebra (a := d.first) hs.a1 hs.a2 hs.a3 (m_toAlgebra (a := d.second) hs.b1 hs.b2 hs.b3 (m_toForm (f := d.form) hs.c1 h))
theorem same_Desk {d : Vc.Desk} {K : Bool → Prop} (h : K true) : f_laws_eqDesk d d K := by
  unfold f_laws_eqDesk
  exact same_Algebra (not_no (same_Algebra (not_no (same_Form (not_no h)))))
theorem pure_IsDesk (d : Vc.Desk) (hg : GoodAlg d.first ∧ GoodAlg d.second ∧ ∀ t, t ∈ d.form.terms → FitA .u8 t.mono ∧ Fit .i64 t.factor) (hb : LenDesk d) : f_laws_FnExactIsDesk d (fun r => r = true) := by
  unfold f_laws_FnExactIsDesk
  refine m_szDesk hb (fun r hr hs => ?_) (fun r hr => by rw [if_pos hr])
  rw [if_neg (by omega)]
  have f1 := hg.1.fit hs.a3
  have f2 := hg.2.1.fit hs.b3
  have f3 : FitT d.form.terms := fun t ht => (hg.2.2 t ht).1
  refine m_toDesk hs ?_
  have tail : ∀ b : Bool, (∀ K : Bool → Prop, K b → f_impl_IsDesk d K) → f_laws_toDesk d (fun r54 => f_impl_IsDesk r54 (fun r83 => (if r83 ≠ b then false = true else f_laws_toDesk d (fun r92 => f_laws_eqDesk r54 r92 (fun r117 => (if ¬ (r117 = true) then false = true else true = true)))))) := fun b him =>
    m_toDesk hs (him _ (neb_no (m_toDesk hs (same_Desk (not_no rfl)))))
  have impl : ∀ K : Bool → Prop, (OkAlg d.first → OkAlg d.second → OkForm d.first.degrees d.form.terms → K true) → (¬ (OkAlg d.first ∧ OkAlg d.second ∧ OkForm d.first.degrees d.form.terms) → K false) → f_impl_IsDesk d K := fun K k1 k2 => by
    unfold f_impl_IsDesk
    refine m_IsAlgebra (a := d.first) f1 (fun o1 => ?_) (fun n1 => ?_)
    · rw [if_pos rfl]
      refine m_IsAlgebra (a := d.second) f2 (fun o2 => ?_) (fun n2 => ?_)
      · rw [if_pos rfl]
        refine m_isForm o1.deg f3 ?_
        by_cases q : OkForm d.first.degrees d.form.terms
        · rw [decide_eq_true q]; exact k1 o1 o2 q
        · rw [decide_eq_false q]; exact k2 fun z => q z.2.2
      · rw [if_neg (by simp)]; exact k2 fun z => n2 z.2.1
    · rw [if_neg (by simp)]; exact k2 fun z => n1 z.1
  unfold f_spec_IsDesk
  refine m_l02Is (a := d.first) f1 (fun o1 => ?_) (fun n1 => ?_)
  · rw [if_pos rfl]
    refine m_l02Is (a := d.second) f2 (fun o2 => ?_) (fun n2 => ?_)
    · rw [if_pos rfl]
      refine m_l01Is o1.deg.1 f3.pos (by have := hs.c1; omega) ?_
      by_cases q : OkForm d.first.degrees d.form.terms
      · rw [decide_eq_true q]; exact tail true fun K hK => impl K (fun _ _ _ => hK) (fun n => absurd ⟨o1, o2, q⟩ n)
      · rw [decide_eq_false q]; exact tail false fun K hK => impl K (fun x y z => absurd z q) (fun _ => hK)
    · rw [if_neg (by simp)]; exact tail false fun K hK => impl K (fun x y z => absurd y n2) (fun _ => hK)
  · rw [if_neg (by simp)]; exact tail false fun K hK => impl K (fun x y z => absurd x n1) (fun _ => hK)
end Go.Proofs.Ytgfmflmhcfkldaa
