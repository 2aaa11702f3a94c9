/- Rounds, arrays of eight numbers. -/
import Derived.Test.YtaagfepgbofmlaaGreatVc3
import Derived.IntWalk
set_option linter.unusedVariables false
set_option linter.unusedSimpArgs false
namespace Vc
open Go Go.RowKit
/-- So many rounds, the next one as a continuation. -/
def forN {S : Type} (body : Nat → S → (S → Prop) → Prop) (exit : S → Prop) : Nat → Nat → S → Prop
  | 0, _, s => exit s
  | r + 1, i, s => body i s (fun s' => forN body exit r (i + 1) s')
def whileK {S : Type} (body : S → (S → Prop) → Prop) : Nat → S → Prop
  | 0, _ => False
  | k + 1, s => body s (whileK body k)
/-- Rounds till one doesn't go on. -/
def whileP {S : Type} (body : S → (S → Prop) → Prop) (s : S) : Prop := ∃ k, whileK body k s
structure A8 where
  x0 : Int
  x1 : Int
  x2 : Int
  x3 : Int
  x4 : Int
  x5 : Int
  x6 : Int
  x7 : Int
  deriving DecidableEq, Inhabited
namespace A8
def enc (k : IntKind) (a : A8) : List Value := [.int k a.x0, .int k a.x1, .int k a.x2, .int k a.x3, .int k a.x4, .int k a.x5, .int k a.x6, .int k a.x7]
def zero : A8 := ⟨0, 0, 0, 0, 0, 0, 0, 0⟩
def get (a : A8) : Nat → Int
  | 0 => a.x0
  | 1 => a.x1
  | 2 => a.x2
  | 3 => a.x3
  | 4 => a.x4
  | 5 => a.x5
  | 6 => a.x6
  | 7 => a.x7
  | _ => 0
def set (a : A8) (i : Nat) (v : Int) : A8 := match i with
  | 0 => { a with x0 := v }
  | 1 => { a with x1 := v }
  | 2 => { a with x2 := v }
  | 3 => { a with x3 := v }
  | 4 => { a with x4 := v }
  | 5 => { a with x5 := v }
  | 6 => { a with x6 := v }
  | 7 => { a with x7 := v }
  | _ => a
theorem enc_get (k : IntKind) (a : A8) {i : Nat} (h : i < 8) : (a.enc k)[i]? = some (.int k (a.get i)) := by
  match i, h with
  | 0, _ => rfl
  | 1, _ => rfl
  | 2, _ => rfl
  | 3, _ => rfl
  | 4, _ => rfl
  | 5, _ => rfl
  | 6, _ => rfl
  | 7, _ => rfl
theorem enc_set (k : IntKind) (a : A8) {i : Nat} (v : Int) (h : i < 8) : splice (a.enc k) i [.int k v] = (a.set i v).enc k := by
  match i, h with
  | 0, _ => rfl
  | 1, _ => rfl
  | 2, _ => rfl
  | 3, _ => rfl
  | 4, _ => rfl
  | 5, _ => rfl
  | 6, _ => rfl
  | 7, _ => rfl
end A8
theorem i64_in (x : Int) (h : -9223372036854775808 ≤ x ∧ x ≤ 9223372036854775807) : IntKind.i64.wrap x = x := IntWalk.i64_in x h
theorem wrap64_nat {i n : Nat} (h : i < n) (hn : n ≤ 9223372036854775807) : IntKind.i64.wrap ((i : Int) + 1) = ((i + 1 : Nat) : Int) := by
  rw [i64_in _ (by omega)]
  omega
/-- What several ways come to, and what is done behind it. -/
@[reducible] def joinP {S : Type} (F : (S → Prop) → Prop) (T : S → Prop) : Prop := F T
theorem joinP_elim {S : Type} {F : (S → Prop) → Prop} {T : S → Prop} (h : joinP F T) : ∃ J : S → Prop, (∀ s, J s → T s) ∧ F J := ⟨T, fun _ h => h, h⟩
end Vc
