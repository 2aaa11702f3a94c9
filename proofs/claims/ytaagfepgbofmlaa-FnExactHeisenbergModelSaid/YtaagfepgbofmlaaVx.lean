/- Parts of a row of the call's own; copies between arrays; arrays compared; items that a callee's writing does not meet. -/
import Derived.Test.YtaagfepgbofmlaaVr
import Derived.Laws.Slices
import Derived.Laws.StructEq
import Derived.Laws.CopyRow
set_option linter.unusedVariables false
set_option linter.unusedSimpArgs false
namespace Vc
open Go Go.RowKit
section
variable {X : Nat → Prop} {w0 w w' : World} {M Ps : List Item}
end
/-! ### Parts of a row of the call's own -/
theorem own_cut {el sz n : Nat} {v : Value} {cs : List Value} {w : World} (h : (own el sz v n cs).holds w) (m : Nat) (hm : m ≤ n) :
    ∃ A c, v = .slice A n c ∧ n ≤ c ∧ (own el sz (.slice A m c) m (cs.take (m * sz))).holds w ∧ (A = none ∨ ∃ g, A = some ⟨g, 0, none⟩) ∧ (Value.slice A m c).ownBlock = v.ownBlock := by
  obtain ⟨h1, h2⟩ := h
  have hl : (cs.take (m * sz)).length = m * sz := by
    rw [List.length_take, h1]
    have := Nat.mul_le_mul_right sz hm
    omega
  rcases h2 with ⟨rfl, rfl⟩ | ⟨g, cap, cur, rfl, hbg, hg, hnc, hcm, hcs, ht⟩
  · obtain rfl : m = 0 := by omega
    exact ⟨none, 0, rfl, Nat.le_refl _, ⟨hl, .inl ⟨rfl, rfl⟩⟩, .inl rfl, rfl⟩
  · refine ⟨_, cap, rfl, hnc, ⟨hl, .inr ⟨g, cap, cur, rfl, hbg, hg, by omega, hcm, hcs, ?_⟩⟩, .inr ⟨g, rfl⟩, rfl⟩
    rw [← ht, List.take_take, Nat.min_eq_left (Nat.mul_le_mul_right sz hm)]
theorem sliced_zero (A : Option Addr) (h c s : Nat) (hA : A = none ∨ ∃ g, A = some ⟨g, 0, none⟩) : sliced A 0 h c s = .slice A h c := by
  unfold sliced
  rcases hA with rfl | ⟨g, rfl⟩
  · simp
  · simp [Addr.add_lit]
def TailOf (sz : Nat) (v u : Value) (l n : Nat) : Prop := ∃ A c, v = .slice A n c ∧ n ≤ c ∧ u = sliced A l n c sz
section
variable {P : Program} {ops : Array Oper} {Q : Exit → Act → World → Prop} {n : Nat} {e : Env} {w w' : World} {rest : List Oper}
variable {X : Nat → Prop} {w0 : World} {M Ps : List Item}
variable {d ty : Nat} {pos : String} {af : Array Edge}
theorem elem_of {P : Program} {t el : Nat} (ht : P.underlying t = some (.slice el)) : P.underlying t = some (.slice (P.elem t)) := by
  have : P.elem t = el := by simp [Program.elem, ht]
  rw [this]; exact ht
end
theorem _root_.Vc.Enc.encs_take {α : Type} (E : Enc α) (xs : List α) (m : Nat) : (E.encs xs).take (m * E.sz) = E.encs (xs.take m) := by
  induction xs generalizing m with
  | nil => simp [Enc.encs]
  | cons x xs ih =>
    cases m with
    | zero => simp [Enc.encs]
    | succ m =>
      have e : E.encs (x :: xs) = E.enc x ++ E.encs xs := by simp [Enc.encs]
      have hl := E.len x
      rw [e, List.take_succ_cons, show E.encs (x :: xs.take m) = E.enc x ++ E.encs (xs.take m) by simp [Enc.encs], Nat.add_mul, Nat.one_mul, Nat.add_comm, ← hl, List.take_length_add_append, hl, ih]
section
variable {P : Program} {ops : Array Oper} {Q : Exit → Act → World → Prop} {n : Nat} {e : Env} {w w' : World} {rest : List Oper}
variable {d ty : Nat} {pos : String} {af : Array Edge}
end
section
variable {P : Program} {ops : Array Oper} {Q : Exit → Act → World → Prop} {n : Nat} {e : Env} {w w' : World} {rest : List Oper}
variable {X : Nat → Prop} {w0 : World} {M Ps : List Item}
variable {d ty : Nat} {pos : String} {af : Array Edge} {gd : Option (Nat × Bool)}
end
end Vc
