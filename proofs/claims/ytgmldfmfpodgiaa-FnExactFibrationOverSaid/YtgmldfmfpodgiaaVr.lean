/- A map as what a row's element reads as: rows of maps. -/
import Derived.Test.YtgmldfmfpodgiaaVo
set_option linter.unusedVariables false
set_option linter.unusedSimpArgs false
namespace Vc
open Go Go.RowKit
section
variable {α β : Type}
end
/-! ### A derivation with sums as images: a struct with a pointer to an algebra -/
structure Derive where
  alg : Alg
  drop : Int
  images : List (List (A8 × Int))
  deriving Inhabited
theorem all_two {α : Type} {t : Ty α} {x y : α} {cs ds : List Value} {f g : List Nat} {w : World} (h : t.rep x cs f w) (k : t.rep y ds g w) : t.all [x, y] (cs ++ ds) (f ++ g) w := all_append (all_one h) k
theorem all_twoI {α : Type} {t : Ty α} {x y : α} {cs ds : List Value} {f g : List Nat} {w : World} (h : (t.item x cs f).holds w) (k : (t.item y ds g).holds w) : (t.allItem [x, y] (cs ++ ds) (f ++ g)).holds w := all_two h k
/-- Two items as one. -/
def Item.both (a c : Item) : Item where
  fp := a.fp ++ c.fp
  holds w := a.holds w ∧ c.holds w
  keep w w' h hw := ⟨Item.keep _ _ _ (fun b hb => h b (List.mem_append_left _ hb)) hw.1, Item.keep _ _ _ (fun b hb => h b (List.mem_append_right _ hb)) hw.2⟩
  low w hw b hb := (List.mem_append.1 hb).elim (Item.low _ w hw.1 b) (Item.low _ w hw.2 b)
theorem ev_cons {n : Nat} {e : Env} {x : Operand} {xs : List Operand} {v : Value} {vs : List Value} (h : ev n e x = v) (k : xs.map (ev n e) = vs) : (x :: xs).map (ev n e) = v :: vs := by rw [List.map_cons, h, k]
/-! ### A row of the call's own whose elements are maps of the call's own: the maps' blocks are said -/
section
variable {α β : Type} {kv : α → Value} {vv : β → Value}
end
end Vc
