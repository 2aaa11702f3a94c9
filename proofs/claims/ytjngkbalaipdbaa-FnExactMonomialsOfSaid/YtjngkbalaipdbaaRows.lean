/-
  No cell of these rows narrows 'for every input' (looked for: loops, veiled, ifaces, maps, wideKeys, modest, calm, conditions, laid).
  DERIVED. THE GIVEN ROWS OF THIS SEAT. 10 by the template 'for every input the law returns true; each argument reads behind the call as it read before'; 0 by the template 'total and deterministic' (their statements: YtjngkbalaipdbaaTotals.lean).
  GIVEN WITH THE SEED: the statements are not yours to turn. If you find one false, say at which input.
  Laid BY PROGRAM, IN A SANDBOX (cutbox-rows.mjs): the forced cells as the released guide's own fill.sh prints them over the translation 0cc9550b130b3739… (all of the seat's roots in one cut). By AI agents, Wed Nov 11 2026. No macro, syntax, notation, axiom, sorry.
-/
import Derived.Test.YtjngkbalaipdbaaChecked
import GoSem.Claim
import GoSem.ClaimJoined
import GoSem.ClaimMapViews
import Derived.JoinedTies
import Derived.KernelRfl
namespace Go.Proofs.Ytjngkbalaipdbaa
/- THE CELL 'sum', in the pinned program and in every row, IS THE sha256 OF THE DUMP (.gsa) THAT YtjngkbalaipdbaaProg.lean LOADS. Nothing in Lean hashes anything: it is a label: what it is worth is what the hold of that sum in a sandbox is worth. -/
noncomputable def Try.pinned : Pinned := { name := "ytjngkbalaipdbaa", sum := "0cc9550b130b37394a195f5cab845eeaecf492ff57e48bee2b46ef380613f251", checked := Try.checked }
namespace Rows
def none {H : Type} : Left H := { results := [], args := [] }

/-- 'laws.FnExactMultiplyMonomials': WHATEVER THE INPUT: true; the input reads as it did. -/
def fnExactMultiplyMonomialsSpec : ChangeSpec := { name := "fnExactMultiplyMonomials", fn := fun _ => fun
  | [d1, d2, d3] => { results := [.lit (.bool true)], args := [d1, d2, d3] }
  | _ => none }
def fnExactMultiplyMonomialsRow : OpenClaim := { program := "ytjngkbalaipdbaa", sum := "0cc9550b130b37394a195f5cab845eeaecf492ff57e48bee2b46ef380613f251", func := "loop.example/g01219/laws.FnExactMultiplyMonomials", spec := "fnExactMultiplyMonomials", unfollowed := true, recurses := true, plainKeys := false, apart := false }
def FnExactMultiplyMonomialsSaid : Prop := fnExactMultiplyMonomialsRow.holds Try.pinned (OpenSpec.ofChange fnExactMultiplyMonomialsSpec)

/-- ITS FALSE NEIGHBOUR: 'it returns false'. Refute it at one input. -/
def fnExactMultiplyMonomialsWrong : ChangeSpec := { name := "fnExactMultiplyMonomials", fn := fun _ => fun
  | [d1, d2, d3] => { results := [.lit (.bool false)], args := [d1, d2, d3] }
  | _ => none }
def FnExactMultiplyMonomialsWrongFalsely : Prop := fnExactMultiplyMonomialsRow.holds Try.pinned (OpenSpec.ofChange fnExactMultiplyMonomialsWrong)

/-- 'laws.FnExactProjectiveModel': WHATEVER THE INPUT: true; the input reads as it did. -/
def fnExactProjectiveModelSpec : ChangeSpec := { name := "fnExactProjectiveModel", fn := fun _ => fun
  | [d1, d2] => { results := [.lit (.bool true)], args := [d1, d2] }
  | _ => none }
def fnExactProjectiveModelRow : OpenClaim := { program := "ytjngkbalaipdbaa", sum := "0cc9550b130b37394a195f5cab845eeaecf492ff57e48bee2b46ef380613f251", func := "loop.example/g01219/laws.FnExactProjectiveModel", spec := "fnExactProjectiveModel", unfollowed := true, recurses := true, plainKeys := false, apart := false }
def FnExactProjectiveModelSaid : Prop := fnExactProjectiveModelRow.holds Try.pinned (OpenSpec.ofChange fnExactProjectiveModelSpec)

/-- ITS FALSE NEIGHBOUR: 'it returns false'. Refute it at one input. -/
def fnExactProjectiveModelWrong : ChangeSpec := { name := "fnExactProjectiveModel", fn := fun _ => fun
  | [d1, d2] => { results := [.lit (.bool false)], args := [d1, d2] }
  | _ => none }
def FnExactProjectiveModelWrongFalsely : Prop := fnExactProjectiveModelRow.holds Try.pinned (OpenSpec.ofChange fnExactProjectiveModelWrong)

/-- 'laws.FnExactMonomialsOf': WHATEVER THE INPUT: true; the input reads as it did. -/
def fnExactMonomialsOfSpec : ChangeSpec := { name := "fnExactMonomialsOf", fn := fun _ => fun
  | [d1, d2] => { results := [.lit (.bool true)], args := [d1, d2] }
  | _ => none }
def fnExactMonomialsOfRow : OpenClaim := { program := "ytjngkbalaipdbaa", sum := "0cc9550b130b37394a195f5cab845eeaecf492ff57e48bee2b46ef380613f251", func := "loop.example/g01219/laws.FnExactMonomialsOf", spec := "fnExactMonomialsOf", unfollowed := true, recurses := true, plainKeys := false, apart := false }
def FnExactMonomialsOfSaid : Prop := fnExactMonomialsOfRow.holds Try.pinned (OpenSpec.ofChange fnExactMonomialsOfSpec)

/-- ITS FALSE NEIGHBOUR: 'it returns false'. Refute it at one input. -/
def fnExactMonomialsOfWrong : ChangeSpec := { name := "fnExactMonomialsOf", fn := fun _ => fun
  | [d1, d2] => { results := [.lit (.bool false)], args := [d1, d2] }
  | _ => none }
def FnExactMonomialsOfWrongFalsely : Prop := fnExactMonomialsOfRow.holds Try.pinned (OpenSpec.ofChange fnExactMonomialsOfWrong)

/-- 'laws.FnExactSphereModel': WHATEVER THE INPUT: true; the input reads as it did. -/
def fnExactSphereModelSpec : ChangeSpec := { name := "fnExactSphereModel", fn := fun _ => fun
  | [d] => { results := [.lit (.bool true)], args := [d] }
  | _ => none }
def fnExactSphereModelRow : OpenClaim := { program := "ytjngkbalaipdbaa", sum := "0cc9550b130b37394a195f5cab845eeaecf492ff57e48bee2b46ef380613f251", func := "loop.example/g01219/laws.FnExactSphereModel", spec := "fnExactSphereModel", unfollowed := true, recurses := true, plainKeys := false, apart := false }
def FnExactSphereModelSaid : Prop := fnExactSphereModelRow.holds Try.pinned (OpenSpec.ofChange fnExactSphereModelSpec)

/-- ITS FALSE NEIGHBOUR: 'it returns false'. Refute it at one input. -/
def fnExactSphereModelWrong : ChangeSpec := { name := "fnExactSphereModel", fn := fun _ => fun
  | [d] => { results := [.lit (.bool false)], args := [d] }
  | _ => none }
def FnExactSphereModelWrongFalsely : Prop := fnExactSphereModelRow.holds Try.pinned (OpenSpec.ofChange fnExactSphereModelWrong)

/-- 'laws.FnExactNewDesk': WHATEVER THE INPUT: true; the input reads as it did. -/
def fnExactNewDeskSpec : ChangeSpec := { name := "fnExactNewDesk", fn := fun _ => fun
  | [] => { results := [.lit (.bool true)], args := [] }
  | _ => none }
def fnExactNewDeskRow : OpenClaim := { program := "ytjngkbalaipdbaa", sum := "0cc9550b130b37394a195f5cab845eeaecf492ff57e48bee2b46ef380613f251", func := "loop.example/g01219/laws.FnExactNewDesk", spec := "fnExactNewDesk", unfollowed := true, recurses := true, plainKeys := false, apart := false }
def FnExactNewDeskSaid : Prop := fnExactNewDeskRow.holds Try.pinned (OpenSpec.ofChange fnExactNewDeskSpec)

/-- ITS FALSE NEIGHBOUR: 'it returns false'. Refute it at one input. -/
def fnExactNewDeskWrong : ChangeSpec := { name := "fnExactNewDesk", fn := fun _ => fun
  | [] => { results := [.lit (.bool false)], args := [] }
  | _ => none }
def FnExactNewDeskWrongFalsely : Prop := fnExactNewDeskRow.holds Try.pinned (OpenSpec.ofChange fnExactNewDeskWrong)

/-- 'laws.FnExactHeisenbergModel': WHATEVER THE INPUT: true; the input reads as it did. -/
def fnExactHeisenbergModelSpec : ChangeSpec := { name := "fnExactHeisenbergModel", fn := fun _ => fun
  | [d] => { results := [.lit (.bool true)], args := [d] }
  | _ => none }
def fnExactHeisenbergModelRow : OpenClaim := { program := "ytjngkbalaipdbaa", sum := "0cc9550b130b37394a195f5cab845eeaecf492ff57e48bee2b46ef380613f251", func := "loop.example/g01219/laws.FnExactHeisenbergModel", spec := "fnExactHeisenbergModel", unfollowed := true, recurses := true, plainKeys := false, apart := false }
def FnExactHeisenbergModelSaid : Prop := fnExactHeisenbergModelRow.holds Try.pinned (OpenSpec.ofChange fnExactHeisenbergModelSpec)

/-- ITS FALSE NEIGHBOUR: 'it returns false'. Refute it at one input. -/
def fnExactHeisenbergModelWrong : ChangeSpec := { name := "fnExactHeisenbergModel", fn := fun _ => fun
  | [d] => { results := [.lit (.bool false)], args := [d] }
  | _ => none }
def FnExactHeisenbergModelWrongFalsely : Prop := fnExactHeisenbergModelRow.holds Try.pinned (OpenSpec.ofChange fnExactHeisenbergModelWrong)

/-- 'laws.FnExactAddForms': WHATEVER THE INPUT: true; the input reads as it did. -/
def fnExactAddFormsSpec : ChangeSpec := { name := "fnExactAddForms", fn := fun _ => fun
  | [d1, d2, d3] => { results := [.lit (.bool true)], args := [d1, d2, d3] }
  | _ => none }
def fnExactAddFormsRow : OpenClaim := { program := "ytjngkbalaipdbaa", sum := "0cc9550b130b37394a195f5cab845eeaecf492ff57e48bee2b46ef380613f251", func := "loop.example/g01219/laws.FnExactAddForms", spec := "fnExactAddForms", unfollowed := true, recurses := true, plainKeys := false, apart := false }
def FnExactAddFormsSaid : Prop := fnExactAddFormsRow.holds Try.pinned (OpenSpec.ofChange fnExactAddFormsSpec)

/-- ITS FALSE NEIGHBOUR: 'it returns false'. Refute it at one input. -/
def fnExactAddFormsWrong : ChangeSpec := { name := "fnExactAddForms", fn := fun _ => fun
  | [d1, d2, d3] => { results := [.lit (.bool false)], args := [d1, d2, d3] }
  | _ => none }
def FnExactAddFormsWrongFalsely : Prop := fnExactAddFormsRow.holds Try.pinned (OpenSpec.ofChange fnExactAddFormsWrong)

/-- 'laws.FnExactScaleForm': WHATEVER THE INPUT: true; the input reads as it did. -/
def fnExactScaleFormSpec : ChangeSpec := { name := "fnExactScaleForm", fn := fun _ => fun
  | [d1, d2, d3] => { results := [.lit (.bool true)], args := [d1, d2, d3] }
  | _ => none }
def fnExactScaleFormRow : OpenClaim := { program := "ytjngkbalaipdbaa", sum := "0cc9550b130b37394a195f5cab845eeaecf492ff57e48bee2b46ef380613f251", func := "loop.example/g01219/laws.FnExactScaleForm", spec := "fnExactScaleForm", unfollowed := true, recurses := true, plainKeys := false, apart := false }
def FnExactScaleFormSaid : Prop := fnExactScaleFormRow.holds Try.pinned (OpenSpec.ofChange fnExactScaleFormSpec)

/-- ITS FALSE NEIGHBOUR: 'it returns false'. Refute it at one input. -/
def fnExactScaleFormWrong : ChangeSpec := { name := "fnExactScaleForm", fn := fun _ => fun
  | [d1, d2, d3] => { results := [.lit (.bool false)], args := [d1, d2, d3] }
  | _ => none }
def FnExactScaleFormWrongFalsely : Prop := fnExactScaleFormRow.holds Try.pinned (OpenSpec.ofChange fnExactScaleFormWrong)

/-- 'laws.FnMonomials': WHATEVER THE INPUT: true; the input reads as it did. -/
def fnMonomialsSpec : ChangeSpec := { name := "fnMonomials", fn := fun _ => fun
  | [d] => { results := [.lit (.bool true)], args := [d] }
  | _ => none }
def fnMonomialsRow : OpenClaim := { program := "ytjngkbalaipdbaa", sum := "0cc9550b130b37394a195f5cab845eeaecf492ff57e48bee2b46ef380613f251", func := "loop.example/g01219/laws.FnMonomials", spec := "fnMonomials", unfollowed := true, recurses := true, plainKeys := false, apart := false }
def FnMonomialsSaid : Prop := fnMonomialsRow.holds Try.pinned (OpenSpec.ofChange fnMonomialsSpec)

/-- ITS FALSE NEIGHBOUR: 'it returns false'. Refute it at one input. -/
def fnMonomialsWrong : ChangeSpec := { name := "fnMonomials", fn := fun _ => fun
  | [d] => { results := [.lit (.bool false)], args := [d] }
  | _ => none }
def FnMonomialsWrongFalsely : Prop := fnMonomialsRow.holds Try.pinned (OpenSpec.ofChange fnMonomialsWrong)

/-- 'laws.FnExactMultiplyForms': WHATEVER THE INPUT: true; the input reads as it did. -/
def fnExactMultiplyFormsSpec : ChangeSpec := { name := "fnExactMultiplyForms", fn := fun _ => fun
  | [d1, d2, d3] => { results := [.lit (.bool true)], args := [d1, d2, d3] }
  | _ => none }
def fnExactMultiplyFormsRow : OpenClaim := { program := "ytjngkbalaipdbaa", sum := "0cc9550b130b37394a195f5cab845eeaecf492ff57e48bee2b46ef380613f251", func := "loop.example/g01219/laws.FnExactMultiplyForms", spec := "fnExactMultiplyForms", unfollowed := true, recurses := true, plainKeys := false, apart := false }
def FnExactMultiplyFormsSaid : Prop := fnExactMultiplyFormsRow.holds Try.pinned (OpenSpec.ofChange fnExactMultiplyFormsSpec)

/-- ITS FALSE NEIGHBOUR: 'it returns false'. Refute it at one input. -/
def fnExactMultiplyFormsWrong : ChangeSpec := { name := "fnExactMultiplyForms", fn := fun _ => fun
  | [d1, d2, d3] => { results := [.lit (.bool false)], args := [d1, d2, d3] }
  | _ => none }
def FnExactMultiplyFormsWrongFalsely : Prop := fnExactMultiplyFormsRow.holds Try.pinned (OpenSpec.ofChange fnExactMultiplyFormsWrong)

/- THE SECOND FORM. 'bulk': how many values and letters a reading holds, each counted each time it is reached (what is shared counts as often as it is met; a slice's spare places count too). A statement '..UptoSaid' is the law's where the arguments, and the package variables that the reading takes, are together of bulk at most 1048576: NARROWER than '..Said'. Prove '..Said' where nothing that the law and all that it calls make is longer than what came in: it says more and counts as full. Else prove '..UptoSaid'. A law counts once. -/
mutual
def uptoBulk {H : Type} : DataW H → Nat
  | .lit (.string bytes) => bytes.length + 1
  | .lit _ => 1
  | .nil => 1
  | .ptr d => uptoBulk d + 1
  | .slice elems spare => uptoBulkAll elems + uptoBulkAll spare + 1
  | .agg parts => uptoBulkAll parts + 1
  | .iface _ d => uptoBulk d + 1
  | .map entries => uptoBulkEntries entries + 1
  | .held _ => 1
def uptoBulkAll {H : Type} : List (DataW H) → Nat
  | [] => 0
  | d :: r => uptoBulk d + uptoBulkAll r
def uptoBulkEntries {H : Type} : List (Lit × DataW H) → Nat
  | [] => 0
  | x :: r => uptoBulkEntry x + uptoBulkEntries r
def uptoBulkEntry {H : Type} : Lit × DataW H → Nat
  | (.string bytes, d) => bytes.length + uptoBulk d + 1
  | (_, d) => uptoBulk d + 1
 end
def uptoSmall : (H : Type) → List (DataW H) → Bool := fun _ ds => decide (uptoBulkAll ds ≤ 1048576)
def OpenSpec.upto (s : _root_.Go.ChangeSpec) : _root_.Go.OpenSpec := { _root_.Go.OpenSpec.ofChange s with cond := some uptoSmall }

/-- 'laws.FnExactMultiplyMonomials', WHERE WHAT IT READS IS OF BULK AT MOST 1048576: true; the input reads as it did. -/
def fnExactMultiplyMonomialsUptoRow : OpenClaim := { program := "ytjngkbalaipdbaa", sum := "0cc9550b130b37394a195f5cab845eeaecf492ff57e48bee2b46ef380613f251", func := "loop.example/g01219/laws.FnExactMultiplyMonomials", spec := "fnExactMultiplyMonomials", unfollowed := true, recurses := true, plainKeys := false, apart := false, narrowed := true }
def FnExactMultiplyMonomialsUptoSaid : Prop := fnExactMultiplyMonomialsUptoRow.holds Try.pinned (OpenSpec.upto fnExactMultiplyMonomialsSpec)

/-- 'laws.FnExactProjectiveModel', WHERE WHAT IT READS IS OF BULK AT MOST 1048576: true; the input reads as it did. -/
def fnExactProjectiveModelUptoRow : OpenClaim := { program := "ytjngkbalaipdbaa", sum := "0cc9550b130b37394a195f5cab845eeaecf492ff57e48bee2b46ef380613f251", func := "loop.example/g01219/laws.FnExactProjectiveModel", spec := "fnExactProjectiveModel", unfollowed := true, recurses := true, plainKeys := false, apart := false, narrowed := true }
def FnExactProjectiveModelUptoSaid : Prop := fnExactProjectiveModelUptoRow.holds Try.pinned (OpenSpec.upto fnExactProjectiveModelSpec)

/-- 'laws.FnExactMonomialsOf', WHERE WHAT IT READS IS OF BULK AT MOST 1048576: true; the input reads as it did. -/
def fnExactMonomialsOfUptoRow : OpenClaim := { program := "ytjngkbalaipdbaa", sum := "0cc9550b130b37394a195f5cab845eeaecf492ff57e48bee2b46ef380613f251", func := "loop.example/g01219/laws.FnExactMonomialsOf", spec := "fnExactMonomialsOf", unfollowed := true, recurses := true, plainKeys := false, apart := false, narrowed := true }
def FnExactMonomialsOfUptoSaid : Prop := fnExactMonomialsOfUptoRow.holds Try.pinned (OpenSpec.upto fnExactMonomialsOfSpec)

/-- 'laws.FnExactSphereModel', WHERE WHAT IT READS IS OF BULK AT MOST 1048576: true; the input reads as it did. -/
def fnExactSphereModelUptoRow : OpenClaim := { program := "ytjngkbalaipdbaa", sum := "0cc9550b130b37394a195f5cab845eeaecf492ff57e48bee2b46ef380613f251", func := "loop.example/g01219/laws.FnExactSphereModel", spec := "fnExactSphereModel", unfollowed := true, recurses := true, plainKeys := false, apart := false, narrowed := true }
def FnExactSphereModelUptoSaid : Prop := fnExactSphereModelUptoRow.holds Try.pinned (OpenSpec.upto fnExactSphereModelSpec)

/-- 'laws.FnExactNewDesk', WHERE WHAT IT READS IS OF BULK AT MOST 1048576: true; the input reads as it did. -/
def fnExactNewDeskUptoRow : OpenClaim := { program := "ytjngkbalaipdbaa", sum := "0cc9550b130b37394a195f5cab845eeaecf492ff57e48bee2b46ef380613f251", func := "loop.example/g01219/laws.FnExactNewDesk", spec := "fnExactNewDesk", unfollowed := true, recurses := true, plainKeys := false, apart := false, narrowed := true }
def FnExactNewDeskUptoSaid : Prop := fnExactNewDeskUptoRow.holds Try.pinned (OpenSpec.upto fnExactNewDeskSpec)

/-- 'laws.FnExactHeisenbergModel', WHERE WHAT IT READS IS OF BULK AT MOST 1048576: true; the input reads as it did. -/
def fnExactHeisenbergModelUptoRow : OpenClaim := { program := "ytjngkbalaipdbaa", sum := "0cc9550b130b37394a195f5cab845eeaecf492ff57e48bee2b46ef380613f251", func := "loop.example/g01219/laws.FnExactHeisenbergModel", spec := "fnExactHeisenbergModel", unfollowed := true, recurses := true, plainKeys := false, apart := false, narrowed := true }
def FnExactHeisenbergModelUptoSaid : Prop := fnExactHeisenbergModelUptoRow.holds Try.pinned (OpenSpec.upto fnExactHeisenbergModelSpec)

/-- 'laws.FnExactAddForms', WHERE WHAT IT READS IS OF BULK AT MOST 1048576: true; the input reads as it did. -/
def fnExactAddFormsUptoRow : OpenClaim := { program := "ytjngkbalaipdbaa", sum := "0cc9550b130b37394a195f5cab845eeaecf492ff57e48bee2b46ef380613f251", func := "loop.example/g01219/laws.FnExactAddForms", spec := "fnExactAddForms", unfollowed := true, recurses := true, plainKeys := false, apart := false, narrowed := true }
def FnExactAddFormsUptoSaid : Prop := fnExactAddFormsUptoRow.holds Try.pinned (OpenSpec.upto fnExactAddFormsSpec)

/-- 'laws.FnExactScaleForm', WHERE WHAT IT READS IS OF BULK AT MOST 1048576: true; the input reads as it did. -/
def fnExactScaleFormUptoRow : OpenClaim := { program := "ytjngkbalaipdbaa", sum := "0cc9550b130b37394a195f5cab845eeaecf492ff57e48bee2b46ef380613f251", func := "loop.example/g01219/laws.FnExactScaleForm", spec := "fnExactScaleForm", unfollowed := true, recurses := true, plainKeys := false, apart := false, narrowed := true }
def FnExactScaleFormUptoSaid : Prop := fnExactScaleFormUptoRow.holds Try.pinned (OpenSpec.upto fnExactScaleFormSpec)

/-- 'laws.FnMonomials', WHERE WHAT IT READS IS OF BULK AT MOST 1048576: true; the input reads as it did. -/
def fnMonomialsUptoRow : OpenClaim := { program := "ytjngkbalaipdbaa", sum := "0cc9550b130b37394a195f5cab845eeaecf492ff57e48bee2b46ef380613f251", func := "loop.example/g01219/laws.FnMonomials", spec := "fnMonomials", unfollowed := true, recurses := true, plainKeys := false, apart := false, narrowed := true }
def FnMonomialsUptoSaid : Prop := fnMonomialsUptoRow.holds Try.pinned (OpenSpec.upto fnMonomialsSpec)

/-- 'laws.FnExactMultiplyForms', WHERE WHAT IT READS IS OF BULK AT MOST 1048576: true; the input reads as it did. -/
def fnExactMultiplyFormsUptoRow : OpenClaim := { program := "ytjngkbalaipdbaa", sum := "0cc9550b130b37394a195f5cab845eeaecf492ff57e48bee2b46ef380613f251", func := "loop.example/g01219/laws.FnExactMultiplyForms", spec := "fnExactMultiplyForms", unfollowed := true, recurses := true, plainKeys := false, apart := false, narrowed := true }
def FnExactMultiplyFormsUptoSaid : Prop := fnExactMultiplyFormsUptoRow.holds Try.pinned (OpenSpec.upto fnExactMultiplyFormsSpec)

end Rows
end Go.Proofs.Ytjngkbalaipdbaa
