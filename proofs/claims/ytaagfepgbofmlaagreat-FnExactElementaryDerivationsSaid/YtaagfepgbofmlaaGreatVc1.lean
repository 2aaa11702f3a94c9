/- The walk's frame as a function of slots, and the laws by which a region's operations are gone through one by one. -/
import Derived.Test.YtaagfepgbofmlaaGreatVc0
import Derived.Calls
import Derived.Orders
import Derived.Tactics
import Derived.Below
import Derived.Laws.Rows
import Derived.Laws.Cells
import Derived.Laws.Tables
import Derived.Laws.Sem
import Derived.Laws.World
import Derived.Laws.CopyRow
import Derived.Laws.Entries
import Derived.WalkKit
set_option linter.unusedVariables false
set_option linter.unusedSimpArgs false
namespace Vc
open Go
abbrev Env := Nat → Value
def upd (e : Env) (d : Nat) (v : Value) : Env := fun i => bif Nat.beq i d then v else e i
def actOf (n : Nat) (e : Env) : Act := ⟨Array.ofFn (n := n) (fun i => e i.val), []⟩
def ev (n : Nat) (e : Env) : Operand → Value
  | .tmp t => bif Nat.blt t n then e t else undef
  | .const v => v
  | .global g => .pointer (some ⟨g, 0, none⟩)
  | .func f => .func (.func f) #[] #[]
theorem eval_actOf (n : Nat) (e : Env) : (actOf n e).eval = ev n e := by
  funext x
  cases x with
  | tmp t =>
    simp only [Act.eval, actOf, ev]
    by_cases h : t < n
    · simp [Array.getD, h, show Nat.blt t n = true by rw [Nat.blt_eq]; exact h]
    · simp [Array.getD, h, show Nat.blt t n = false by
        cases hb : Nat.blt t n with
        | false => rfl
        | true => rw [Nat.blt_eq] at hb; exact absurd hb h]
  | _ => rfl
theorem beq_ne0 {i d : Nat} (h : i ≠ d) : Nat.beq i d = false := by
  cases hb : Nat.beq i d with
  | false => rfl
  | true => exact absurd (Nat.eq_of_beq_eq_true hb) h
theorem put_actOf (n : Nat) (e : Env) (d : Nat) (v : Value) : (actOf n e).put (some d) v = actOf n (upd e d v) := by
  simp only [Act.put, actOf]
  congr 1
  apply Array.ext
  · simp
  · intro i h1 h2
    by_cases hd : d = i
    · subst hd; simp [upd, Nat.beq_refl]
    · have h3 : i < n := by simpa using h2
      rw [Array.getElem_setIfInBounds_ne (by simpa using h3) hd]
      simp [upd, beq_ne0 (Ne.symm hd)]
/-- What is left of a region, as a thing of its own (so that nothing looks into it). -/
structure W (P : Program) (ops : Array Oper) (Q : Exit → Act → World → Prop) (l : List Oper) (n : Nat) (e : Env) (w : World) : Prop where
  out : wpList P ops Q l (actOf n e) w
section
variable {P : Program} {ops : Array Oper} {Q : Exit → Act → World → Prop} {n : Nat} {e : Env} {w w' : World} {rest : List Oper} {o : Oper}
/-- An operation that gives a value. -/
theorem stepV {d : Nat} (v : Value) (hg : o.guard = none) (hd : o.dst = some d) (hr : (execOp (ev n e) o).run P w = .ok (.value v) w')
    (h : W P ops Q rest n (upd e d v) w') : W P ops Q (o :: rest) n e w := by
  refine ⟨?_⟩
  unfold wpList
  rw [if_pos (by simp [Region.wanted, hg])]
  refine .inl ?_
  unfold Oper.wp
  rw [eval_actOf, hr, Oper.upon_value, hd, put_actOf]
  exact h.out
/-- One that gives none. -/
theorem stepU (hg : o.guard = none) (hd : o.dst = none) (hr : (execOp (ev n e) o).run P w = .ok .skip w')
    (h : W P ops Q rest n e w') : W P ops Q (o :: rest) n e w := by
  refine ⟨?_⟩
  unfold wpList
  rw [if_pos (by simp [Region.wanted, hg])]
  refine .inl ?_
  unfold Oper.wp
  rw [eval_actOf, hr, Oper.upon_skip, hd]
  exact h.out
/-- The value of the operation that a guard looks at. -/
def gval (ops : Array Oper) (n : Nat) (e : Env) (g : Nat) : Option Bool :=
  match (ops[g]?).bind (·.dst) with
  | some d => if d < n then (match e d with | .bool b => some b | _ => none) else none
  | none => none
theorem yielded_actOf (g : Nat) : yielded ops (actOf n e).tmps g = gval ops n e g := by
  unfold yielded gval
  cases h : (ops[g]?).bind (·.dst) with
  | none => rfl
  | some d =>
    simp only [Option.bind_some, actOf]
    by_cases hd : d < n
    · simp [hd]
      cases e d <;> rfl
    · simp [hd]
/-- A guarded operation that isn't wanted. -/
theorem stepG0 {g : Nat} {want b : Bool} {d : Nat} (hg : o.guard = some (g, want)) (hd : o.dst = some d) (hb : gval ops n e g = some b) (hne : b ≠ want)
    (h : W P ops Q rest n (upd e d undef) w) : W P ops Q (o :: rest) n e w := by
  refine ⟨?_⟩
  unfold wpList
  rw [if_neg (by simp [Region.wanted, hg, yielded_actOf, hb, hne]), hd, put_actOf]
  exact h.out
/-- One that is. -/
theorem stepG1 {g : Nat} {want : Bool} {d : Nat} (v : Value) (hg : o.guard = some (g, want)) (hd : o.dst = some d) (hb : gval ops n e g = some want)
    (hr : (execOp (ev n e) o).run P w = .ok (.value v) w')
    (h : W P ops Q rest n (upd e d v) w') : W P ops Q (o :: rest) n e w := by
  refine ⟨?_⟩
  unfold wpList
  rw [if_pos (by simp [Region.wanted, hg, yielded_actOf, hb])]
  refine .inl ?_
  unfold Oper.wp
  rw [eval_actOf, hr, Oper.upon_value, hd, put_actOf]
  exact h.out
/-- A call of a Go function. -/
theorem stepC {d : Nat} (f : FuncId) (args : Array Value) (R : Ending → World → Prop) (hw : ∀ g b, o.guard = some (g, b) → gval ops n e g = some b) (hd : o.dst = some d)
    (hr : (execOp (ev n e) o).run P w = .ok (.enter f args) w') (hc : Calls P f args w' R)
    (h : ∀ ret w'', R ret w'' → ∃ v, ret = .returned v ∧ W P ops Q rest n (upd e d v) w'') : W P ops Q (o :: rest) n e w := by
  refine ⟨?_⟩
  unfold wpList
  rw [if_pos (by
    unfold Region.wanted
    cases hg : o.guard with
    | none => rfl
    | some gb => obtain ⟨g, b⟩ := gb; simp [yielded_actOf, hw g b hg])]
  refine .inl ?_
  unfold Oper.wp
  rw [eval_actOf, hr, Oper.upon_enter]
  refine hc.mono fun ret w'' hR => ?_
  obtain ⟨v, rfl, hk⟩ := h ret w'' hR
  show wpList P ops Q rest ((actOf n e).put o.dst v) w''
  rw [hd, put_actOf]
  exact hk.out
/-! ### Codes -/
theorem cw_region {id : Nat} {l : List Oper} (h : W P l.toArray Q l n e w) : (Code.region id l.toArray false).wp P Q (actOf n e) w := wp_region_lit h.out
theorem cw_cond {c : Operand} {x y : Code} {b : Bool} (hc : ev n e c = .bool b) (ht : b = true → x.wp P Q (actOf n e) w) (hf : b = false → y.wp P Q (actOf n e) w) :
    (Code.cond c x y).wp P Q (actOf n e) w := wp_cond_split (by rw [eval_actOf]; exact hc) ht hf
theorem cw_true {c : Operand} {x y : Code} {b : Bool} (hc : ev n e c = .bool b) (hb : b = true) (h : x.wp P Q (actOf n e) w) : (Code.cond c x y).wp P Q (actOf n e) w := wp_cond_true (by rw [eval_actOf, hc, hb]) h
theorem cw_false {c : Operand} {x y : Code} {b : Bool} (hc : ev n e c = .bool b) (hb : b = false) (h : y.wp P Q (actOf n e) w) : (Code.cond c x y).wp P Q (actOf n e) w := wp_cond_false (by rw [eval_actOf, hc, hb]) h
/-- A call's body: its frame as a function of slots. -/
def argEnv (args : List Value) : Env := fun i => (args[i]?).getD undef
theorem calls_of {f : FuncId} {fn : Func} {c : Code} {args : List Value} {w : World} {R : Ending → World → Prop}
    (hf : P.funcs[f]? = some fn) (hb : fn.body = some c) (n : Nat) (hn : fn.ntmps = n) (hl : args.length ≤ n)
    (h : c.wp P (bodyPost P fn R) (actOf n (argEnv args)) w) : Calls P f args.toArray w R := by
  refine calls_of_wp hf hb ?_
  have : ({ tmps := args.toArray ++ Array.replicate (fn.ntmps - args.toArray.size) undef, defers := [] } : Act) = actOf n (argEnv args) := by
    unfold actOf
    congr 1
    apply Array.ext
    · simp [hn]; omega
    · intro i h1 h2
      simp only [Array.getElem_ofFn, argEnv]
      by_cases hi : i < args.length
      · rw [Array.getElem_append_left (by simpa using hi)]; simp [hi]
      · rw [Array.getElem_append_right (by simpa using hi)]; simp [hi]
  rw [this]; exact h
end
end Vc
