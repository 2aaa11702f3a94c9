/- The differential as coefficients. -/
import Derived.Test.YtaagfepgbofmlaaVf0
set_option linter.unusedVariables false
set_option linter.unusedSimpArgs false
namespace Vc
open Go
def A8.mkf (f : Nat → Int) : A8 := ⟨f 0, f 1, f 2, f 3, f 4, f 5, f 6, f 7⟩
def leftA (m : A8) (i : Nat) : A8 := A8.mkf fun j => if j < i then m.get j else if j = i then m.get i - 1 else 0
def backA (m : A8) (i : Nat) : A8 := A8.mkf fun j => if i < j then m.get j else 0
/-- The degree of the first generators' part. -/
def wtU (ds : List Int) (m : A8) : Nat → Int
  | 0 => 0
  | i + 1 => wtU ds m i + ds.getD i default * m.get i
/-- A term of an image between what stands ahead and what stands behind. -/
def tri (ds : List Int) (l b u : A8) (n : Int) (x : A8) : Int := if (joined ds (joined ds l u).1 b).1 = x then (joined ds (joined ds l u).1 b).2 * ((joined ds l u).2 * n) else 0
def triC (ds : List Int) (l b : A8) (img : List Term) (x : A8) : Int := tot (fun u => tri ds l b u.mono u.factor x) img
/-- What the differential of one term gives. -/
def dK (ds : List Int) (m : A8) (n : Int) (i : Nat) : Int := (sg (wtU ds m i) * (n * m.get i)) % 10007
def dS (ds : List Int) (imgs : List (List Term)) (m : A8) (n : Int) (x : A8) : Nat → Nat → Int
  | 0, _ => 0
  | r + 1, i => (if m.get i > 0 then dK ds m n i * triC ds (leftA m i) (backA m i) (imgs.getD i default) x else 0) + dS ds imgs m n x r (i + 1)
def dT (ds : List Int) (imgs : List (List Term)) (m : A8) (n : Int) (x : A8) : Int := dS ds imgs m n x 8 0
/-- Which monomials it has. -/
def DMono (ds : List Int) (imgs : List (List Term)) (x m : A8) : Prop := ∃ i u, i < 8 ∧ 0 < m.get i ∧ u ∈ imgs.getD i default ∧ x = ((leftA m i).add u.mono).add (backA m i) ∧ ¬ Clash ds (leftA m i) u.mono ∧ ¬ Clash ds ((leftA m i).add u.mono) (backA m i)
/-- What the differential of a form is. -/
structure IsD (ds : List Int) (imgs : List (List Term)) (f out : List Term) : Prop where
  can : Canon out
  cf : ∀ x, coT out x % 10007 = tot (fun t => dT ds imgs t.mono t.factor x) f % 10007
  mo : ∀ y, y ∈ out → ∃ t, t ∈ f ∧ DMono ds imgs y.mono t.mono
end Vc
