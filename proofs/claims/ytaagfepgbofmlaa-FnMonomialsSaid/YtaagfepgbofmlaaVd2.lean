/- Plain laws: the differential of the reference and of the program. -/
import Derived.Test.YtaagfepgbofmlaaVd1
import Derived.Test.YtaagfepgbofmlaaVf3
set_option linter.unusedVariables false
set_option linter.unusedSimpArgs false
namespace Go.Proofs.Ytaagfepgbofmlaa
open Go Vc
def imgsT (a : Alg) : List (List Term) := a.images.map Vc.Form.terms
/-- What an algebra's shape is: the images are forms. -/
structure AlgF (a : Alg) : Prop where
  deg : OkDeg a.degrees
  len : a.images.length = a.degrees.length
  frm : ∀ i, i < a.images.length → OkForm a.degrees (a.images.getD i default).terms
  fit : ∀ i, i < a.images.length → FitT (a.images.getD i default).terms
theorem wtU_bd {ds : List Int} {m : A8} (hd : OkDeg ds) (hm : ∀ i, i < 8 → 0 ≤ m.get i ∧ m.get i ≤ 255) : ∀ k, k ≤ ds.length → 0 ≤ wtU ds m k ∧ wtU ds m k ≤ 3060 * k := by
  intro k
  induction k with
  | zero => intro _; simp [wtU]
  | succ k ih =>
    intro hk
    have h1 := ih (by omega)
    have h2 := hd.2 k (by omega)
    have h3 := hm k (by have := hd.1; omega)
    have h4 : 0 ≤ ds.getD k default * m.get k := Int.mul_nonneg (by omega) h3.1
    have h5 : ds.getD k default * m.get k ≤ 12 * 255 := Int.mul_le_mul h2.2 h3.2 h3.1 (by omega)
    simp only [wtU]
    omega
theorem wtU_prod {ds : List Int} {m : A8} (hd : OkDeg ds) (hm : ∀ i, i < 8 → 0 ≤ m.get i ∧ m.get i ≤ 255) {k : Nat} (hk : k < ds.length) : 0 ≤ ds.getD k default * m.get k ∧ ds.getD k default * m.get k ≤ 3060 := by
  have h2 := hd.2 k hk
  have h3 := hm k (by have := hd.1; omega)
  exact ⟨Int.mul_nonneg (by omega) h3.1, Int.mul_le_mul h2.2 h3.2 h3.1 (by omega)⟩
theorem m_degree {ds : List Int} {m : A8} {K : Int → Prop} (hd : OkDeg ds) (hm : ∀ i, i < 8 → 0 ≤ m.get i ∧ m.get i ≤ 255) (h : K (wtU ds m ds.length)) : f_impl_power_degree m ds K := by
  unfold f_impl_power_degree
  have h8 := hd.1
  refine forN_inv (fun i (s : Int) => s = wtU ds m i) ds.length ?_ ?_ _ _ _ (by omega) rfl
  · intro i s next hi hs hn
    have h2 := wtU_prod hd hm hi
    have h3 := wtU_bd hd hm i (by omega)
    refine ⟨by omega, ?_⟩
    rw [i64_in (ds.getD i default * m.get i) (by omega), i64_in _ (by omega)]
    exact hn _ (by simp only [wtU]; rw [hs])
  · intro s hs; rw [hs]; exact h
/-- The middle of a step: from the accumulator out to out'. -/
structure StepD (ds : List Int) (imgs : List (List Term)) (m : A8) (n : Int) (i : Nat) (out out' : List Term) : Prop where
  can : Canon out'
  cf : ∀ x, coT out' x % 10007 = (coT out x + dK ds m n i * triC ds (leftA m i) (backA m i) (imgs.getD i default) x) % 10007
  mo : ∀ y, y ∈ out' → (∃ z, z ∈ out ∧ z.mono = y.mono) ∨ DMono ds imgs y.mono m
  ln : out'.length ≤ out.length + 400
end Go.Proofs.Ytaagfepgbofmlaa
