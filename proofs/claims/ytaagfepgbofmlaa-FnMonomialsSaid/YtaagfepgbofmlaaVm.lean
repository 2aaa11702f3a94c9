/- Arrays of maps: those laid so far, read from then on. -/
import Derived.Test.YtaagfepgbofmlaaVt
set_option linter.unusedVariables false
set_option linter.unusedSimpArgs false
namespace Vc
open Go Go.RowKit
/-- What the slots hold. -/
def Slots (e : Env) (l : List (Nat × Value)) : Prop := ∀ p, p ∈ l → e p.1 = p.2
theorem slots_nil {e : Env} : Slots e [] := by intro p hp; cases hp
theorem slots_cons {e : Env} {t : Nat} {v : Value} {l : List (Nat × Value)} (h : e t = v) (hs : Slots e l) : Slots e ((t, v) :: l) := by
  intro p hp
  rcases List.mem_cons.1 hp with rfl | hp
  · exact h
  · exact hs p hp
theorem slot {e : Env} {l : List (Nat × Value)} (hs : Slots e l) (k : Nat) {t : Nat} {v : Value} (h : l[k]? = some (t, v)) : e t = v := hs (t, v) (List.mem_of_getElem? h)
/-- Which operations are done, as bits. -/
def dbits (n k : Nat) : Array Bool := ((List.range n).map (Nat.testBit k)).toArray
section
variable {α β : Type}
variable {kv : α → Value} {vv : β → Value} {n : Nat} {ls : List (Option (List (α × β)))} {cs : List Value} {fp : List Nat} {w : World}
end
namespace Ctx
variable {X : Nat → Prop} {w0 w w' : World} {M Ps : List Item}
end Ctx
section
variable {P : Program} {l : List Oper} {Q : Exit → Act → World → Prop} {n m f : Nat} {e : Env} {w : World} {listed : Array Bool}
end
section
variable {P : Program} {ops : Array Oper} {Q : Exit → Act → World → Prop} {n : Nat} {e : Env} {w w' : World} {rest : List Oper}
variable {X : Nat → Prop} {w0 : World} {M Ps : List Item}
variable {d ty : Nat} {pos : String} {af : Array Edge} {gd : Option (Nat × Bool)}
variable {α β : Type} {kv : α → Value} {vv : β → Value}
variable [DecidableEq α]
end
section
variable {α : Type} {T : Tr α} {w : World}
end
section
variable {P : Program} {ops : Array Oper} {Q : Exit → Act → World → Prop} {n : Nat} {e : Env} {w w' : World} {rest : List Oper}
variable {X : Nat → Prop} {w0 : World} {M Ps : List Item}
variable {d ty : Nat} {pos : String} {af : Array Edge} {gd : Option (Nat × Bool)}
end
/-! ### Two bools -/
theorem bne_t {a b : Bool} (h : (!(a == b)) = true) : a ≠ b := by simpa using h
theorem bne_f {a b : Bool} (h : (!(a == b)) = false) : ¬ (a ≠ b) := by simpa using h
theorem run_eqB {P : Program} {w : World} {t : Nat} {a b : Bool} (ht : P.underlying t = some .bool) : (Op.equal t (.bool a) (.bool b)).run P w = .ok (a == b) w := by
  unfold Op.equal Op.maxDepth
  rw [show (10000 : Nat) = 9999 + 1 from rfl]
  unfold Op.equalIn
  simp [run_underlying ht]
section
variable {P : Program} {ops : Array Oper} {Q : Exit → Act → World → Prop} {n : Nat} {e : Env} {w w' : World} {rest : List Oper}
variable {d ty : Nat} {pos : String} {af : Array Edge} {gd : Option (Nat × Bool)}
theorem s_neqB {t t' : Nat} {x y : Operand} {a b : Bool} (ht : P.underlying t = some .bool) (hx : ev n e x = .bool a) (hy : ev n e y = .bool b)
    (h : W P ops Q rest n (upd e d (.bool (!(a == b)))) w) : W P ops Q (⟨some d, .binOp .neq t x y t', ty, pos, af, none⟩ :: rest) n e w := by
  refine stepV (.bool (!(a == b))) rfl rfl ?_ h
  have hq : (eqGuard .neq t x y (.bool a) (.bool b)).run P w = .ok () w := by unfold eqGuard; simp
  have hr : (binOp .neq t (.bool a) (.bool b)).run P w = .ok (.bool (!(a == b))) w := by
    simp [binOp, run_eqB ht]
  simp only [execOp, hx, hy, Sem.run_bind, hq, Result.andThen_ok, hr, Sem.run_pure]
end
/-! ### Short words -/
section
variable {P : Program} {ops : Array Oper} {Q : Exit → Act → World → Prop} {K : Act → World → Prop} {n : Nat} {e : Env} {w : World}
theorem dn (h : K (actOf n e) w) : W P ops (Exit.then K Q) [] n e w := done (then_norm h)
theorem sr {id : Nat} {l : List Oper} {y : Code} (h : W P l.toArray (Exit.then (y.wp P Q) Q) l n e w) : (Code.seq (Code.region id l.toArray false) y).wp P Q (actOf n e) w := wp_seq (cw_region h)
theorem sk {t : Nat} {v : Value} {l : List (Nat × Value)} (h : e t = v) (hs : Slots e l) : Slots e ((t, v) :: l) := slots_cons h hs
theorem sn : Slots e [] := slots_nil
theorem sx {l : List (Nat × Value)} (hs : Slots e l) (k : Nat) {t : Nat} {v : Value} (h : l[k]? = some (t, v)) : e t = v := slot hs k h
end
end Vc
