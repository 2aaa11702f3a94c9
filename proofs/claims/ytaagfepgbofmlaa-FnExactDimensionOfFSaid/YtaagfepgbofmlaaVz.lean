/- Calls walked in the caller's own state; maps of pointers; rows of truths; max. -/
import Derived.Test.YtaagfepgbofmlaaVy
set_option linter.unusedVariables false
set_option linter.unusedSimpArgs false
namespace Vc
open Go Go.RowKit
abbrev vvP (b : Nat) : Value := .pointer (some ⟨b, 0, none⟩)
def EB : Enc Bool := ⟨1, by decide, fun x => [.bool x], fun _ => rfl, fun x u hu => by obtain rfl : u = _ := List.mem_singleton.1 hu; rfl⟩
section
variable {P : Program} {k : Nat} {ik : IntKind}
theorem keyI (hk : P.underlying k = some (.int ik)) : KeyT P k (vvI ik) where
  under := ⟨_, hk, .inr fun x y => by simp [Instr.sameNow, Bool.beq_eq_decide_eq]⟩
  check em w x := by
    show (Instr.checkKey em (9999 + 1) k _).run P w = _
    unfold Instr.checkKey; simp [Sem.run_bind, run_underlying hk]
  equal w x y := run_equal_i (d := 9999) hk w x y
  stays x := by simp [Instr.sameBits]
end
section
variable {P : Program} {ops : Array Oper} {Q : Exit → Act → World → Prop} {n : Nat} {e : Env} {w w' : World} {rest : List Oper}
variable {X : Nat → Prop} {w0 : World} {M Ps : List Item}
variable {d ty : Nat} {pos : String} {af : Array Edge}
theorem s_lookupE {α β : Type} [DecidableEq α] {kv : α → Value} {vv : β → Value} {t k el b : Nat} {x y : Operand} (kx : α) (z : Value) (hh : (mapI kv vv b []).holds w) (K : KeyT P k kv) (ht : P.underlying t = some (.map k el)) (hz : ZeroT P el z)
    (hx : ev n e x = .map (some b)) (hy : ev n e y = kv kx) (h : W P ops Q rest n (upd e d (.tuple #[z, .bool false])) w) : W P ops Q (⟨some d, .lookup t x y true, ty, pos, af, none⟩ :: rest) n e w := by
  refine stepV _ rfl rfl ?_ h
  obtain ⟨es, clock, h1, h2, h3⟩ := hh
  have hg : (getObj b).run P w = .ok (.map es clock) w := by simp [getObj, Sem.run, h1]
  have hl : (Instr.lookup t (.map (some b)) (kv kx) true).run P w = .ok (.tuple #[z, .bool false]) w := by
    simp only [Instr.lookup, Sem.run_bind, run_underlying ht, Result.andThen_ok, hg, Sem.run_pure, K.check, run_findKey K w kx es.toList [] h2]
    simp [mfind, run_zero hz]
  simp [execOp, hx, hy, hl]
theorem r_max {t t' : Nat} {x y : Operand} {k : IntKind} {a b : Int} {gd : Option (Nat × Bool)} (hx : ev n e x = .int k a) (hy : ev n e y = .int k b) :
    (execOp (ev n e) ⟨some d, .call { callee := .builtin .max, args := #[x, y], argTypes := #[t, t'] }, ty, pos, af, gd⟩).run P w = .ok (.value (.int k (if a < b then b else a))) w := by
  simp [execOp, resolve, invoke, builtin, hx, hy, Builtin.max_, Builtin.max2, Sem.run_bind]
theorem s_max {t t' : Nat} {x y : Operand} {k : IntKind} {a b : Int} (hx : ev n e x = .int k a) (hy : ev n e y = .int k b)
    (h : W P ops Q rest n (upd e d (.int k (if a < b then b else a))) w) : W P ops Q (⟨some d, .call { callee := .builtin .max, args := #[x, y], argTypes := #[t, t'] }, ty, pos, af, none⟩ :: rest) n e w :=
  stepV _ rfl rfl (r_max hx hy) h
/-- A call that is walked where it stands: the callee's code in the caller's world, then the rest. -/
theorem s_inline {f : FuncId} {l : List Operand} {fn : Func} {c : Code} {at_ : Array Nat} (vs : List Value) (hf : P.funcs[f]? = some fn) (hb : fn.body = some c) (hne : (fn.name == "runtime.NumGoroutine") = false) (m : Nat) (hm : fn.ntmps = m) (hl : vs.length ≤ m)
    (hp : l.map (ev n e) = vs) (h : c.wp P (bodyPost P fn (fun ret w'' => ∃ v, ret = .returned v ∧ W P ops Q rest n (upd e d v) w'')) (actOf m (argEnv vs)) w) :
    W P ops Q (⟨some d, .call { callee := .value (.func f), args := l.toArray, argTypes := at_ }, ty, pos, af, none⟩ :: rest) n e w :=
  s_call vs _ hf (by rw [hb]; rfl) hne hp (calls_of hf hb m hm hl h) (fun ret w'' h => h)
end
end Vc
