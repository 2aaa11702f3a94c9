/- Copies into a row of the call's own; bits of numbers. -/
import Derived.Test.YtaagfepgbofmlaaVx
set_option linter.unusedVariables false
set_option linter.unusedSimpArgs false
namespace Vc
open Go Go.RowKit
def bAnd (k : IntKind) (a b : Int) : Int := k.wrap ((BitVec.ofInt k.bits a &&& BitVec.ofInt k.bits b).toNat : Nat)
def bShr (a : Int) (m : Nat) : Int := a.fdiv (2 ^ m)
section
variable {P : Program} {ops : Array Oper} {Q : Exit → Act → World → Prop} {n : Nat} {e : Env} {w w' : World} {rest : List Oper}
variable {X : Nat → Prop} {w0 : World} {M Ps : List Item}
variable {d ty : Nat} {pos : String} {af : Array Edge}
theorem s_and {t t' : Nat} {x y : Operand} {k : IntKind} {a b : Int} (hx : ev n e x = .int k a) (hy : ev n e y = .int k b)
    (h : W P ops Q rest n (upd e d (.int k (bAnd k a b))) w) : W P ops Q (⟨some d, .binOp .and t x y t', ty, pos, af, none⟩ :: rest) n e w :=
  s_arith _ hx hy (by simp [binOp, Op.intBits, bAnd]) h
theorem s_shr {t t' : Nat} {x y : Operand} {k k' : IntKind} {a b : Int} (hx : ev n e x = .int k a) (hy : ev n e y = .int k' b) (m : Nat) (h0 : 0 ≤ b) (hm : min b.toNat k.bits = m)
    (h : W P ops Q rest n (upd e d (.int k (bShr a m))) w) : W P ops Q (⟨some d, .binOp .shr t x y t', ty, pos, af, none⟩ :: rest) n e w := by
  refine stepV _ rfl rfl ?_ h
  have hq : (eqGuard .shr t x y (.int k a) (.int k' b)).run P w = .ok () w := by
    unfold eqGuard
    simp
  have hb : ¬ b < 0 := by omega
  have hr : (binOp .shr t (.int k a) (.int k' b)).run P w = .ok (.int k (bShr a m)) w := by
    subst hm
    simp [binOp, Op.shift, bShr, hb]
  simp only [execOp, hx, hy, Sem.run_bind, hq, Result.andThen_ok, hr, Sem.run_pure]
end
end Vc
