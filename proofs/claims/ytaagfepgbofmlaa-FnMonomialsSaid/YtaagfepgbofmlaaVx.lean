/- Parts of a row of the call's own; copies between arrays; arrays compared; items that a callee's writing does not meet. -/
import Derived.Test.YtaagfepgbofmlaaVr
import Derived.Laws.Slices
import Derived.Laws.StructEq
import Derived.Laws.CopyRow
set_option linter.unusedVariables false
set_option linter.unusedSimpArgs false
namespace Vc
open Go Go.RowKit
section
variable {X : Nat → Prop} {w0 w w' : World} {M Ps : List Item}
end
section
variable {P : Program} {ops : Array Oper} {Q : Exit → Act → World → Prop} {n : Nat} {e : Env} {w w' : World} {rest : List Oper}
variable {X : Nat → Prop} {w0 : World} {M Ps : List Item}
variable {d ty : Nat} {pos : String} {af : Array Edge}
end
section
variable {P : Program} {ops : Array Oper} {Q : Exit → Act → World → Prop} {n : Nat} {e : Env} {w w' : World} {rest : List Oper}
variable {d ty : Nat} {pos : String} {af : Array Edge}
theorem r_neqA {t t' : Nat} {ik : IntKind} {x y : Operand} {a b : A8} {gd : Option (Nat × Bool)} (K : KeyT P t (kvA ik)) (hm : P.eqGuardType P.depth t = false) (hx : ev n e x = .agg (List.toArray (a.enc ik))) (hy : ev n e y = .agg (List.toArray (b.enc ik))) :
    (execOp (ev n e) ⟨some d, .binOp .neq t x y t', ty, pos, af, gd⟩).run P w = .ok (.value (.bool (decide (a ≠ b)))) w := by
  have hq := run_eqGuard_agg (P := P) w .neq t x y (List.toArray (a.enc ik)) (List.toArray (b.enc ik)) hm
  have hr : (Op.equalIn 10000 t (.agg (List.toArray (a.enc ik))) (.agg (List.toArray (b.enc ik)))).run P w = .ok (decide (a = b)) w := K.equal w a b
  simp only [execOp, hx, hy, Sem.run_bind, hq, Result.andThen_ok, run_neq_struct, hr, Sem.run_pure]
  simp
theorem s_neqA {t t' : Nat} {ik : IntKind} {x y : Operand} {a b : A8} (K : KeyT P t (kvA ik)) (hm : P.eqGuardType P.depth t = false) (hx : ev n e x = .agg (List.toArray (a.enc ik))) (hy : ev n e y = .agg (List.toArray (b.enc ik)))
    (h : W P ops Q rest n (upd e d (.bool (decide (a ≠ b)))) w) : W P ops Q (⟨some d, .binOp .neq t x y t', ty, pos, af, none⟩ :: rest) n e w :=
  stepV _ rfl rfl (r_neqA K hm hx hy) h
end
section
variable {P : Program} {ops : Array Oper} {Q : Exit → Act → World → Prop} {n : Nat} {e : Env} {w w' : World} {rest : List Oper}
variable {X : Nat → Prop} {w0 : World} {M Ps : List Item}
variable {d ty : Nat} {pos : String} {af : Array Edge} {gd : Option (Nat × Bool)}
end
end Vc
