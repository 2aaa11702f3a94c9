/- slices.SortFunc over a row of the call's own. -/
import Derived.Test.YtaagfepgbofmlaaVc11
import Derived.Shelf.SlSortCmp.WholeK
import Derived.Shelf.SlSortCmp.NoneTotal
set_option linter.unusedVariables false
set_option linter.unusedSimpArgs false
set_option linter.unusedSectionVars false
namespace Vc
open Go Go.RowKit
open Go.Proofs (CmpLays sortWorldK ltOf)
open Go.Sort (grow putRowK flatK HoldsK SWO PermIn SortedIn mapBlock onCells putCells putRow)
structure BelO (fp : List Nat) (w w' : World) : Prop where
  os : w'.os = w.os
  tape : w'.tape = w.tape
  output : w'.output = w.output
  size : w.heap.size ≤ w'.heap.size
  drawn : w.drawn ≤ w'.drawn
  old : ∀ c, c < w.heap.size → c ∉ fp → w'.heap[c]? = w.heap[c]?
section
variable {P : Program} {ops : Array Oper} {Q : Exit → Act → World → Prop} {n : Nat} {e : Env} {w w' : World} {rest : List Oper}
variable {X : Nat → Prop} {w0 : World} {M Ps : List Item}
variable {d ty : Nat} {pos : String} {af : Array Edge}
/-- What is known of a comparing function: it may sort. -/
structure Cmp (P : Program) (ρ : Go.Shelf.Ren) {α : Type} [Inhabited α] (E : Enc α) (Ok : α → Prop) (cf : α → α → Int) (g : Nat) : Prop where
  lays : Go.Proofs.SlLaysF0.n6 P ρ
  one : ∃ x0, Ok x0
  agg : AggT P (ρ.t 24) E.sz
  swo : SWO (ltOf (fun a b : {a // Ok a} => cf a.1 b.1))
  fn : ∃ fn : Func, P.funcs[g]? = some fn ∧ fn.body.isNone = false ∧ (fn.name == "runtime.NumGoroutine") = false
  call : ∀ a b, Ok a → Ok b → ∀ w, Calls P g #[.agg (E.enc a).toArray, .agg (E.enc b).toArray] w fun e w' => e = .returned (.int .i64 (cf a b)) ∧ Bel w w'
end
end Vc
