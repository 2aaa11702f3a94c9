/- Rows of one element that is read. -/
import Derived.Test.YtgfmflmhcfkldaaVm
set_option linter.unusedVariables false
set_option linter.unusedSimpArgs false
namespace Vc
open Go Go.RowKit Go.ChangeShapes Go.WideShapes Go.ChangeAt
theorem all_one {α : Type} {t : Ty α} {x : α} {cs : List Value} {fp : List Nat} {w : World} (h : t.rep x cs fp w) : t.all [x] cs fp w := by
  have hl := t.len h
  refine ⟨t.low h, by rw [hl]; simp, t.one h, fun i hi => ?_⟩
  obtain rfl : i = 0 := by simpa using hi
  rw [Nat.zero_mul, List.drop_zero, List.take_of_length_le (by omega)]
  exact h
/-! ### A desk from outside -/
section
variable {H : Type} {enc : TypeId × Value → H} {P : Program} {W : World}
theorem opens_desk {G D : Alg → Prop} {E : Form → Prop} {t : TypeId} {f0 f1 f2 : Field} (ht : P.underlying t = some (.struct #[f0, f1, f2])) (h0 : f0.offset = 0) (h1 : f1.offset = P.cellsOf f0.type) (h2 : f2.offset = P.cellsOf f0.type + P.cellsOf f1.type)
    (hc : P.cellsOf f0.type + P.cellsOf f1.type + P.cellsOf f2.type = P.cellsOf t) (h : Opens enc P W f0.type TAlg G) (k : Opens enc P W f1.type TAlg D) (l : Opens enc P W f2.type TForm E) : Opens enc P W t TDesk (fun b => G b.first ∧ D b.second ∧ E b.form) := by
  intro fuel cs x hx
  obtain ⟨xs, n, _, rfl, hl, hlen, hf⟩ := DataW.trod_struct ht hx
  match xs, hlen with
  | [y0, y1, y2], _ =>
    have hy := hf 0 f0 rfl
    have hz := hf 1 f1 rfl
    have hu := hf 2 f2 rfl
    rw [h0, List.drop_zero] at hy
    rw [h1] at hz
    rw [h2, List.take_of_length_le (by rw [List.length_drop]; omega)] at hu
    obtain ⟨a, hr, hga⟩ := h _ _ _ hy
    obtain ⟨b, hs, hgb⟩ := k _ _ _ hz
    obtain ⟨c, hq, hgc⟩ := l _ _ _ hu
    refine ⟨⟨a, b, c⟩, ?_, hga, hgb, hgc⟩
    show ∃ c1 c2, cs = c1 ++ c2 ∧ (∃ d1 d2, c1 = d1 ++ d2 ∧ TAlg.rep a d1 (allB W) W ∧ TAlg.rep b d2 (allB W) W) ∧ TForm.rep c c2 (allB W) W
    refine ⟨cs.take (P.cellsOf f0.type + P.cellsOf f1.type), cs.drop (P.cellsOf f0.type + P.cellsOf f1.type), (List.take_append_drop _ _).symm, ⟨_, _, ?_, hr, hs⟩, hq⟩
    rw [List.take_add]
end
theorem agg_parts5 {c : Array Value} (h : (Value.agg c).cells.toList.length = 5) : ∃ p q r s u, c = #[p, q, r, s, u] := by
  obtain ⟨l⟩ := c
  have h' : l.length = 5 := h
  match l, h' with
  | [p, q, r, s, u], _ => exact ⟨p, q, r, s, u, rfl⟩
end Vc
