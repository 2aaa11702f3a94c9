/- Rows of one element that is read. -/
import Derived.Test.YtgmldfmfpodgiaaVm
set_option linter.unusedVariables false
set_option linter.unusedSimpArgs false
namespace Vc
open Go Go.RowKit Go.ChangeShapes Go.WideShapes Go.ChangeAt
theorem all_one {α : Type} {t : Ty α} {x : α} {cs : List Value} {fp : List Nat} {w : World} (h : t.rep x cs fp w) : t.all [x] cs fp w := by
  have hl := t.len h
  refine ⟨t.low h, by rw [hl]; simp, t.one h, fun i hi => ?_⟩
  obtain rfl : i = 0 := by simpa using hi
  rw [Nat.zero_mul, List.drop_zero, List.take_of_length_le (by omega)]
  exact h
/-! ### A desk from outside -/
section
variable {H : Type} {enc : TypeId × Value → H} {P : Program} {W : World}
end
end Vc
