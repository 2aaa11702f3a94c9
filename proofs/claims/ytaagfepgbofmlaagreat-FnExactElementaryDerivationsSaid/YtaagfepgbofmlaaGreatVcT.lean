/- The program's data. -/
import Derived.Test.YtaagfepgbofmlaaGreatVc8
set_option linter.unusedVariables false
set_option linter.unusedSimpArgs false
namespace Vc
open Go Go.RowKit
def EI (k : IntKind) : Enc Int := ⟨1, by decide, fun x => [.int k x], fun _ => rfl, fun x u hu => by obtain rfl : u = _ := List.mem_singleton.1 hu; rfl⟩
def EA (k : IntKind) : Enc A8 := ⟨8, by decide, A8.enc k, fun _ => rfl, fun x u hu => by
  simp only [A8.enc, List.mem_cons, List.not_mem_nil, or_false] at hu
  rcases hu with rfl | rfl | rfl | rfl | rfl | rfl | rfl | rfl <;> rfl⟩
structure Term where
  mono : A8
  factor : Int
  deriving DecidableEq, Inhabited
def Term.enc (t : Term) : List Value := A8.enc .u8 t.mono ++ [.int .i64 t.factor]
def ETerm : Enc Term := ⟨9, by decide, Term.enc, fun _ => rfl, fun x u hu => by
  simp only [Term.enc, List.mem_append] at hu
  rcases hu with hu | hu
  · exact (EA .u8).one _ u hu
  · obtain rfl : u = _ := List.mem_singleton.1 hu; rfl⟩
structure Form where
  terms : List Term
  deriving DecidableEq, Inhabited
structure Alg where
  degrees : List Int
  images : List Form
  deriving DecidableEq, Inhabited
structure Der where
  drop : Int
  images : List Form
  deriving DecidableEq, Inhabited
structure Desk where
  first : Alg
  second : Alg
  form : Form
  deriving DecidableEq, Inhabited
def Ty.iso {α β : Type} (f : β → α) (t : Ty α) : Ty β where
  sz := t.sz
  rep x cs fp w := t.rep (f x) cs fp w
  keep h hw := t.keep h hw
  low hw := t.low hw
  len hw := t.len hw
  one hw := t.one hw
  more hw := t.more hw
def Ty.pair {α β : Type} (s : Ty α) (t : Ty β) : Ty (α × β) where
  sz := s.sz + t.sz
  rep x cs fp w := ∃ c1 c2, cs = c1 ++ c2 ∧ s.rep x.1 c1 fp w ∧ t.rep x.2 c2 fp w
  keep h hw := by obtain ⟨c1, c2, e, h1, h2⟩ := hw; exact ⟨c1, c2, e, s.keep h h1, t.keep h h2⟩
  low hw := by obtain ⟨c1, c2, e, h1, h2⟩ := hw; exact s.low h1
  len hw := by obtain ⟨c1, c2, rfl, h1, h2⟩ := hw; rw [List.length_append, s.len h1, t.len h2]
  one hw u hu := by
    obtain ⟨c1, c2, rfl, h1, h2⟩ := hw
    rcases List.mem_append.1 hu with hu | hu
    · exact s.one h1 u hu
    · exact t.one h2 u hu
  more hw h h' := by obtain ⟨c1, c2, e, h1, h2⟩ := hw; exact ⟨c1, c2, e, s.more h1 h h', t.more h2 h h'⟩
theorem pair_parts {α β : Type} {s : Ty α} {t : Ty β} {x : α × β} {c1 c2 : List Value} {fp : List Nat} {w : World} (h : (Ty.pair s t).rep x (c1 ++ c2) fp w) (hl : c1.length = s.sz) : s.rep x.1 c1 fp w ∧ t.rep x.2 c2 fp w := by
  obtain ⟨d1, d2, e, h1, h2⟩ := h
  have := s.len h1
  obtain ⟨rfl, rfl⟩ := List.append_inj e (by omega)
  exact ⟨h1, h2⟩
theorem pair_mk {α β : Type} {s : Ty α} {t : Ty β} {x : α × β} {c1 c2 : List Value} {f1 f2 : List Nat} {w : World} (h1 : s.rep x.1 c1 f1 w) (h2 : t.rep x.2 c2 f2 w) : (Ty.pair s t).rep x (c1 ++ c2) (f1 ++ f2) w := by
  have hl : ∀ b, b ∈ f1 ++ f2 → b < w.heap.size := by
    intro b hb
    rcases List.mem_append.1 hb with hb | hb
    · exact s.low h1 b hb
    · exact t.low h2 b hb
  exact ⟨c1, c2, rfl, s.more h1 (fun b hb => List.mem_append_left _ hb) hl, t.more h2 (fun b hb => List.mem_append_right _ hb) hl⟩
abbrev TInts : Ty (List Int) := (EI .i64).ty.sl
abbrev TTerms : Ty (List Term) := ETerm.ty.sl
def TForm : Ty Form := .iso Form.terms TTerms
abbrev TForms : Ty (List Form) := TForm.sl
def TAlg : Ty Alg := .iso (fun a => (a.degrees, a.images)) (.pair TInts TForms)
def TDer : Ty Der := .iso (fun a => (a.drop, a.images)) (.pair (EI .i64).ty TForms)
theorem form_parts {x : Form} {v : Value} {fp : List Nat} {w : World} (h : TForm.rep x [v] fp w) : TTerms.rep x.terms [v] fp w := h
theorem form_mk {ts : List Term} {v : Value} {fp : List Nat} {w : World} (h : TTerms.rep ts [v] fp w) : TForm.rep ⟨ts⟩ [v] fp w := h
theorem alg_parts {x : Alg} {v u : Value} {fp : List Nat} {w : World} (h : TAlg.rep x [v, u] fp w) : TInts.rep x.degrees [v] fp w ∧ TForms.rep x.images [u] fp w := pair_parts (c1 := [v]) (c2 := [u]) h rfl
theorem alg_mk {a : List Int} {b : List Form} {v u : Value} {f1 f2 : List Nat} {w : World} (h1 : TInts.rep a [v] f1 w) (h2 : TForms.rep b [u] f2 w) : TAlg.rep ⟨a, b⟩ [v, u] (f1 ++ f2) w := pair_mk (c1 := [v]) (c2 := [u]) h1 h2
theorem der_parts {x : Der} {v u : Value} {fp : List Nat} {w : World} (h : TDer.rep x [v, u] fp w) : v = .int .i64 x.drop ∧ TForms.rep x.images [u] fp w := by
  have := pair_parts (c1 := [v]) (c2 := [u]) h rfl
  exact ⟨by have := this.1.2; simpa [EI] using this, this.2⟩
theorem der_mk {d : Int} {b : List Form} {u : Value} {f2 : List Nat} {w : World} (h2 : TForms.rep b [u] f2 w) : TDer.rep ⟨d, b⟩ [.int .i64 d, u] f2 w :=
  pair_mk (s := (EI .i64).ty) (t := TForms) (x := (d, b)) (c1 := [.int .i64 d]) (c2 := [u]) (f1 := []) ⟨by simp, rfl⟩ h2
end Vc
