/- Calls walked in the caller's own state; maps of pointers; rows of truths; max. -/
import Derived.Test.YtaagfepgbofmlaaVy
set_option linter.unusedVariables false
set_option linter.unusedSimpArgs false
namespace Vc
open Go Go.RowKit
theorem beq_t {a b : Bool} (h : (a == b) = true) : a = b := by simpa using h
theorem beq_f {a b : Bool} (h : (a == b) = false) : ¬ (a = b) := by simpa using h
section
variable {P : Program} {k : Nat} {ik : IntKind}
end
section
variable {P : Program} {ops : Array Oper} {Q : Exit → Act → World → Prop} {n : Nat} {e : Env} {w w' : World} {rest : List Oper}
variable {X : Nat → Prop} {w0 : World} {M Ps : List Item}
variable {d ty : Nat} {pos : String} {af : Array Edge}
theorem r_eqlB {t t' : Nat} {x y : Operand} {a b : Bool} {gd : Option (Nat × Bool)} (ht : P.underlying t = some .bool) (hx : ev n e x = .bool a) (hy : ev n e y = .bool b) :
    (execOp (ev n e) ⟨some d, .binOp .eql t x y t', ty, pos, af, gd⟩).run P w = .ok (.value (.bool (a == b))) w := by
  have hq : (eqGuard .eql t x y (.bool a) (.bool b)).run P w = .ok () w := by unfold eqGuard; simp
  have hr : (binOp .eql t (.bool a) (.bool b)).run P w = .ok (.bool (a == b)) w := by
    simp [binOp, run_eqB ht]
  simp only [execOp, hx, hy, Sem.run_bind, hq, Result.andThen_ok, hr, Sem.run_pure]
theorem s_eqlB {t t' : Nat} {x y : Operand} {a b : Bool} (ht : P.underlying t = some .bool) (hx : ev n e x = .bool a) (hy : ev n e y = .bool b)
    (h : W P ops Q rest n (upd e d (.bool (a == b))) w) : W P ops Q (⟨some d, .binOp .eql t x y t', ty, pos, af, none⟩ :: rest) n e w :=
  stepV _ rfl rfl (r_eqlB ht hx hy) h
theorem r_neqB {t t' : Nat} {x y : Operand} {a b : Bool} {gd : Option (Nat × Bool)} (ht : P.underlying t = some .bool) (hx : ev n e x = .bool a) (hy : ev n e y = .bool b) :
    (execOp (ev n e) ⟨some d, .binOp .neq t x y t', ty, pos, af, gd⟩).run P w = .ok (.value (.bool (!(a == b)))) w := by
  have hq : (eqGuard .neq t x y (.bool a) (.bool b)).run P w = .ok () w := by unfold eqGuard; simp
  have hr : (binOp .neq t (.bool a) (.bool b)).run P w = .ok (.bool (!(a == b))) w := by
    simp [binOp, run_eqB ht]
  simp only [execOp, hx, hy, Sem.run_bind, hq, Result.andThen_ok, hr, Sem.run_pure]
theorem Ctx.turnF (hC : Ctx X w0 w M Ps) (k : Nat) {b t : Nat} {qs bs : List Value} (hk : M[k]? = some (blk b t qs)) (hB : BelO [b] w w') (hh : (blk b t bs).holds w') : Ctx X w0 w' (M.set k (blk b t bs)) Ps :=
  hC.turn k hk hB.os hB.tape hB.output hB.size hB.drawn (fun c hc hn => hB.old c hc hn) hh (fun c hc => .inl hc)
/-- A call that is walked where it stands: the callee's code in the caller's world, then the rest. -/
theorem s_inline {f : FuncId} {l : List Operand} {fn : Func} {c : Code} {at_ : Array Nat} (vs : List Value) (hf : P.funcs[f]? = some fn) (hb : fn.body = some c) (hne : (fn.name == "runtime.NumGoroutine") = false) (m : Nat) (hm : fn.ntmps = m) (hl : vs.length ≤ m)
    (hp : l.map (ev n e) = vs) (h : c.wp P (bodyPost P fn (fun ret w'' => ∃ v, ret = .returned v ∧ W P ops Q rest n (upd e d v) w'')) (actOf m (argEnv vs)) w) :
    W P ops Q (⟨some d, .call { callee := .value (.func f), args := l.toArray, argTypes := at_ }, ty, pos, af, none⟩ :: rest) n e w :=
  s_call vs _ hf (by rw [hb]; rfl) hne hp (calls_of hf hb m hm hl h) (fun ret w'' h => h)
end
end Vc
