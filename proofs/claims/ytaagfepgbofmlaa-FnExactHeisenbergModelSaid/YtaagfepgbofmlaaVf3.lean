/- Plain laws: sums, multiples and products of forms; copies and marks of a form. -/
import Derived.Test.YtaagfepgbofmlaaVf2
import Derived.Test.YtaagfepgbofmlaaVp4
set_option linter.unusedVariables false
set_option linter.unusedSimpArgs false
namespace Go.Proofs.Ytaagfepgbofmlaa
open Go Vc
theorem FitT.map {l : List Term} {m : List (A8 × Int)} (h : FitT l) (hm : IsMap l m) : ∀ p, p ∈ m → ∀ i, i < 8 → 0 ≤ p.1.get i ∧ p.1.get i ≤ 255 := fun p hp => by
  obtain ⟨t, ht, e⟩ := hm.ks p hp
  rw [← e]; exact h.pos t ht
theorem okP_get {a : A8} (h : ∀ i, i < 8 → 0 ≤ a.get i ∧ a.get i ≤ 1000000) : OkP a := fun x hx => by
  obtain ⟨i, hi, rfl⟩ := A8.mem_list.1 hx
  have := h i hi
  omega
/-! ### Steps of laws -/
theorem not_no {A B : Prop} (h : B) : if ¬ (true = true) then A else B := by simpa using h
theorem ne_no {c : Int} {A B : Prop} (h : B) : if c ≠ c then A else B := by simpa using h
theorem lt_no {c : Int} {A B : Prop} (hc : 0 ≤ c) (h : B) : if c < 0 then A else B := by rw [if_neg (by omega)]; exact h
end Go.Proofs.Ytaagfepgbofmlaa
