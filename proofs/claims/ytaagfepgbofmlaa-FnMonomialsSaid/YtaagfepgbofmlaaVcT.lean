/- The program's data. -/
import Derived.Test.YtaagfepgbofmlaaVc8
set_option linter.unusedVariables false
set_option linter.unusedSimpArgs false
namespace Vc
open Go Go.RowKit
def EI (k : IntKind) : Enc Int := ⟨1, by decide, fun x => [.int k x], fun _ => rfl, fun x u hu => by obtain rfl : u = _ := List.mem_singleton.1 hu; rfl⟩
def EA (k : IntKind) : Enc A8 := ⟨8, by decide, A8.enc k, fun _ => rfl, fun x u hu => by
  simp only [A8.enc, List.mem_cons, List.not_mem_nil, or_false] at hu
  rcases hu with rfl | rfl | rfl | rfl | rfl | rfl | rfl | rfl <;> rfl⟩
structure Term where
  mono : A8
  factor : Int
  deriving DecidableEq, Inhabited
def Term.enc (t : Term) : List Value := A8.enc .u8 t.mono ++ [.int .i64 t.factor]
def ETerm : Enc Term := ⟨9, by decide, Term.enc, fun _ => rfl, fun x u hu => by
  simp only [Term.enc, List.mem_append] at hu
  rcases hu with hu | hu
  · exact (EA .u8).one _ u hu
  · obtain rfl : u = _ := List.mem_singleton.1 hu; rfl⟩
structure Form where
  terms : List Term
  deriving DecidableEq, Inhabited
structure Alg where
  degrees : List Int
  images : List Form
  deriving DecidableEq, Inhabited
structure Der where
  drop : Int
  images : List Form
  deriving DecidableEq, Inhabited
structure Desk where
  first : Alg
  second : Alg
  form : Form
  deriving DecidableEq, Inhabited
def Ty.iso {α β : Type} (f : β → α) (t : Ty α) : Ty β where
  sz := t.sz
  rep x cs fp w := t.rep (f x) cs fp w
  keep h hw := t.keep h hw
  low hw := t.low hw
  len hw := t.len hw
  one hw := t.one hw
  more hw := t.more hw
end Vc
