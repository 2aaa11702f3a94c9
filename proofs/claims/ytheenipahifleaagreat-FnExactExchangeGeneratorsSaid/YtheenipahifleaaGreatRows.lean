/-
  No cell of these rows narrows 'for every input' (looked for: loops, veiled, ifaces, maps, wideKeys, modest, calm, conditions, laid).
  DERIVED. THE GIVEN ROWS OF THIS SEAT. 3 by the template 'for every input the law returns true; each argument reads behind the call as it read before'; 0 by the template 'total and deterministic' (their statements: YtheenipahifleaaGreatTotals.lean).
  GIVEN WITH THE SEED: the statements are not yours to turn. If you find one false, say at which input.
  Laid BY PROGRAM, IN A SANDBOX (cutbox-rows.mjs): the forced cells as the released guide's own fill.sh prints them over the translation ad56800b8d15f5f0… (all of the seat's roots in one cut). By AI agents, Wed Nov 11 2026. No macro, syntax, notation, axiom, sorry.
-/
import Derived.Test.YtheenipahifleaaGreatChecked
import GoSem.Claim
import GoSem.ClaimJoined
import GoSem.ClaimMapViews
import Derived.JoinedTies
import Derived.KernelRfl
namespace Go.Proofs.YtheenipahifleaaGreat
/- THE CELL 'sum', in the pinned program and in every row, IS THE sha256 OF THE DUMP (.gsa) THAT YtheenipahifleaaGreatProg.lean LOADS. Nothing in Lean hashes anything: it is a label: what it is worth is what the hold of that sum in a sandbox is worth. -/
noncomputable def Tryz.pinned : Pinned := { name := "ytheenipahifleaagreat", sum := "ad56800b8d15f5f020e6cc3ad93b573c86f392a7e5050ce3ef52bee4d68d5179", checked := Tryz.checked }
namespace Rows
def none {H : Type} : Left H := { results := [], args := [] }

/-- 'laws.FnExactComposeMaps': WHATEVER THE INPUT: true; the input reads as it did. -/
def fnExactComposeMapsSpec : ChangeSpec := { name := "fnExactComposeMaps", fn := fun _ => fun
  | [d1, d2, d3, d4, d5] => { results := [.lit (.bool true)], args := [d1, d2, d3, d4, d5] }
  | _ => none }
def fnExactComposeMapsRow : OpenClaim := { program := "ytheenipahifleaagreat", sum := "ad56800b8d15f5f020e6cc3ad93b573c86f392a7e5050ce3ef52bee4d68d5179", func := "loop.example/g01219/laws.FnExactComposeMaps", spec := "fnExactComposeMaps", unfollowed := true, recurses := true, plainKeys := false, apart := false }
def FnExactComposeMapsSaid : Prop := fnExactComposeMapsRow.holds Tryz.pinned (OpenSpec.ofChange fnExactComposeMapsSpec)

/-- ITS FALSE NEIGHBOUR: 'it returns false'. Refute it at one input. -/
def fnExactComposeMapsWrong : ChangeSpec := { name := "fnExactComposeMaps", fn := fun _ => fun
  | [d1, d2, d3, d4, d5] => { results := [.lit (.bool false)], args := [d1, d2, d3, d4, d5] }
  | _ => none }
def FnExactComposeMapsWrongFalsely : Prop := fnExactComposeMapsRow.holds Tryz.pinned (OpenSpec.ofChange fnExactComposeMapsWrong)

/-- 'laws.FnExactGradingMap': WHATEVER THE INPUT: true; the input reads as it did. -/
def fnExactGradingMapSpec : ChangeSpec := { name := "fnExactGradingMap", fn := fun _ => fun
  | [d1, d2, d3] => { results := [.lit (.bool true)], args := [d1, d2, d3] }
  | _ => none }
def fnExactGradingMapRow : OpenClaim := { program := "ytheenipahifleaagreat", sum := "ad56800b8d15f5f020e6cc3ad93b573c86f392a7e5050ce3ef52bee4d68d5179", func := "loop.example/g01219/laws.FnExactGradingMap", spec := "fnExactGradingMap", unfollowed := true, recurses := true, plainKeys := false, apart := false }
def FnExactGradingMapSaid : Prop := fnExactGradingMapRow.holds Tryz.pinned (OpenSpec.ofChange fnExactGradingMapSpec)

/-- ITS FALSE NEIGHBOUR: 'it returns false'. Refute it at one input. -/
def fnExactGradingMapWrong : ChangeSpec := { name := "fnExactGradingMap", fn := fun _ => fun
  | [d1, d2, d3] => { results := [.lit (.bool false)], args := [d1, d2, d3] }
  | _ => none }
def FnExactGradingMapWrongFalsely : Prop := fnExactGradingMapRow.holds Tryz.pinned (OpenSpec.ofChange fnExactGradingMapWrong)

/-- 'laws.FnExactExchangeGenerators': WHATEVER THE INPUT: true; the input reads as it did. -/
def fnExactExchangeGeneratorsSpec : ChangeSpec := { name := "fnExactExchangeGenerators", fn := fun _ => fun
  | [d1, d2] => { results := [.lit (.bool true)], args := [d1, d2] }
  | _ => none }
def fnExactExchangeGeneratorsRow : OpenClaim := { program := "ytheenipahifleaagreat", sum := "ad56800b8d15f5f020e6cc3ad93b573c86f392a7e5050ce3ef52bee4d68d5179", func := "loop.example/g01219/laws.FnExactExchangeGenerators", spec := "fnExactExchangeGenerators", unfollowed := true, recurses := true, plainKeys := false, apart := false }
def FnExactExchangeGeneratorsSaid : Prop := fnExactExchangeGeneratorsRow.holds Tryz.pinned (OpenSpec.ofChange fnExactExchangeGeneratorsSpec)

/-- ITS FALSE NEIGHBOUR: 'it returns false'. Refute it at one input. -/
def fnExactExchangeGeneratorsWrong : ChangeSpec := { name := "fnExactExchangeGenerators", fn := fun _ => fun
  | [d1, d2] => { results := [.lit (.bool false)], args := [d1, d2] }
  | _ => none }
def FnExactExchangeGeneratorsWrongFalsely : Prop := fnExactExchangeGeneratorsRow.holds Tryz.pinned (OpenSpec.ofChange fnExactExchangeGeneratorsWrong)

/- THE SECOND FORM. 'bulk': how many values and letters a reading holds, each counted each time it is reached (what is shared counts as often as it is met; a slice's spare places count too). A statement '..UptoSaid' is the law's where the arguments, and the package variables that the reading takes, are together of bulk at most 1048576: NARROWER than '..Said'. Prove '..Said' where nothing that the law and all that it calls make is longer than what came in: it says more and counts as full. Else prove '..UptoSaid'. A law counts once. -/
mutual
def uptoBulk {H : Type} : DataW H → Nat
  | .lit (.string bytes) => bytes.length + 1
  | .lit _ => 1
  | .nil => 1
  | .ptr d => uptoBulk d + 1
  | .slice elems spare => uptoBulkAll elems + uptoBulkAll spare + 1
  | .agg parts => uptoBulkAll parts + 1
  | .iface _ d => uptoBulk d + 1
  | .map entries => uptoBulkEntries entries + 1
  | .held _ => 1
def uptoBulkAll {H : Type} : List (DataW H) → Nat
  | [] => 0
  | d :: r => uptoBulk d + uptoBulkAll r
def uptoBulkEntries {H : Type} : List (Lit × DataW H) → Nat
  | [] => 0
  | x :: r => uptoBulkEntry x + uptoBulkEntries r
def uptoBulkEntry {H : Type} : Lit × DataW H → Nat
  | (.string bytes, d) => bytes.length + uptoBulk d + 1
  | (_, d) => uptoBulk d + 1
 end
def uptoSmall : (H : Type) → List (DataW H) → Bool := fun _ ds => decide (uptoBulkAll ds ≤ 1048576)
def OpenSpec.upto (s : _root_.Go.ChangeSpec) : _root_.Go.OpenSpec := { _root_.Go.OpenSpec.ofChange s with cond := some uptoSmall }

/-- 'laws.FnExactComposeMaps', WHERE WHAT IT READS IS OF BULK AT MOST 1048576: true; the input reads as it did. -/
def fnExactComposeMapsUptoRow : OpenClaim := { program := "ytheenipahifleaagreat", sum := "ad56800b8d15f5f020e6cc3ad93b573c86f392a7e5050ce3ef52bee4d68d5179", func := "loop.example/g01219/laws.FnExactComposeMaps", spec := "fnExactComposeMaps", unfollowed := true, recurses := true, plainKeys := false, apart := false, narrowed := true }
def FnExactComposeMapsUptoSaid : Prop := fnExactComposeMapsUptoRow.holds Tryz.pinned (OpenSpec.upto fnExactComposeMapsSpec)

/-- 'laws.FnExactGradingMap', WHERE WHAT IT READS IS OF BULK AT MOST 1048576: true; the input reads as it did. -/
def fnExactGradingMapUptoRow : OpenClaim := { program := "ytheenipahifleaagreat", sum := "ad56800b8d15f5f020e6cc3ad93b573c86f392a7e5050ce3ef52bee4d68d5179", func := "loop.example/g01219/laws.FnExactGradingMap", spec := "fnExactGradingMap", unfollowed := true, recurses := true, plainKeys := false, apart := false, narrowed := true }
def FnExactGradingMapUptoSaid : Prop := fnExactGradingMapUptoRow.holds Tryz.pinned (OpenSpec.upto fnExactGradingMapSpec)

/-- 'laws.FnExactExchangeGenerators', WHERE WHAT IT READS IS OF BULK AT MOST 1048576: true; the input reads as it did. -/
def fnExactExchangeGeneratorsUptoRow : OpenClaim := { program := "ytheenipahifleaagreat", sum := "ad56800b8d15f5f020e6cc3ad93b573c86f392a7e5050ce3ef52bee4d68d5179", func := "loop.example/g01219/laws.FnExactExchangeGenerators", spec := "fnExactExchangeGenerators", unfollowed := true, recurses := true, plainKeys := false, apart := false, narrowed := true }
def FnExactExchangeGeneratorsUptoSaid : Prop := fnExactExchangeGeneratorsUptoRow.holds Tryz.pinned (OpenSpec.upto fnExactExchangeGeneratorsSpec)

end Rows
end Go.Proofs.YtheenipahifleaaGreat
