/- Plain laws: the differential of the reference and of the program. -/
import Derived.Test.YtaagfepgbofmlaaVd1
import Derived.Test.YtaagfepgbofmlaaVf3
set_option linter.unusedVariables false
set_option linter.unusedSimpArgs false
namespace Go.Proofs.Ytaagfepgbofmlaa
open Go Vc
def imgsT (a : Alg) : List (List Term) := a.images.map Vc.Form.terms
/-- What an algebra's shape is: the images are forms. -/
structure AlgF (a : Alg) : Prop where
  deg : OkDeg a.degrees
  len : a.images.length = a.degrees.length
  frm : ∀ i, i < a.images.length → OkForm a.degrees (a.images.getD i default).terms
  fit : ∀ i, i < a.images.length → FitT (a.images.getD i default).terms
theorem m_l01Single1 {m : A8} {K : Vc.Form → Prop} (h : K ⟨[⟨m, 1⟩]⟩) : f_spec_l01Single m 1 K := by
  unfold f_spec_l01Single
  refine m_l01Mod ?_
  rw [if_neg (by decide)]
  exact m_l01Mod h
theorem canon1 (m : A8) : Canon [⟨m, 1⟩] := ⟨by simp, by intro t ht; obtain rfl := List.mem_singleton.1 ht; simp⟩
/-- The middle of a step: from the accumulator out to out'. -/
structure StepD (ds : List Int) (imgs : List (List Term)) (m : A8) (n : Int) (i : Nat) (out out' : List Term) : Prop where
  can : Canon out'
  cf : ∀ x, coT out' x % 10007 = (coT out x + dK ds m n i * triC ds (leftA m i) (backA m i) (imgs.getD i default) x) % 10007
  mo : ∀ y, y ∈ out' → (∃ z, z ∈ out ∧ z.mono = y.mono) ∨ DMono ds imgs y.mono m
  ln : out'.length ≤ out.length + 400
end Go.Proofs.Ytaagfepgbofmlaa
