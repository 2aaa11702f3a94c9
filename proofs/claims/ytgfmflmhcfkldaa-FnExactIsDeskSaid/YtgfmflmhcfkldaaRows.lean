/-
  No cell of these rows narrows 'for every input' (looked for: loops, veiled, ifaces, maps, wideKeys, modest, calm, conditions, laid).
  DERIVED. THE GIVEN ROWS OF THIS SEAT. 8 by the template 'for every input the law returns true; each argument reads behind the call as it read before'; 0 by the template 'total and deterministic' (their statements: YtgfmflmhcfkldaaTotals.lean).
  GIVEN WITH THE SEED: the statements are not yours to turn. If you find one false, say at which input.
  Laid BY PROGRAM, IN A SANDBOX (cutbox-rows.mjs): the forced cells as the released guide's own fill.sh prints them over the translation e572bdcbd31788ab… (all of the seat's roots in one cut). By AI agents, Wed Nov 11 2026. No macro, syntax, notation, axiom, sorry.
-/
import Derived.Test.YtgfmflmhcfkldaaChecked
import GoSem.Claim
import GoSem.ClaimJoined
import GoSem.ClaimMapViews
import Derived.JoinedTies
import Derived.KernelRfl
namespace Go.Proofs.Ytgfmflmhcfkldaa
/- THE CELL 'sum', in the pinned program and in every row, IS THE sha256 OF THE DUMP (.gsa) THAT YtgfmflmhcfkldaaProg.lean LOADS. Nothing in Lean hashes anything: it is a label: what it is worth is what the hold of that sum in a sandbox is worth. -/
noncomputable def Try.pinned : Pinned := { name := "ytgfmflmhcfkldaa", sum := "e572bdcbd31788ab85687d00043ee5964fbd70153b23b5e33f2458acfd09cdc0", checked := Try.checked }
namespace Rows
def none {H : Type} : Left H := { results := [], args := [] }

/-- 'laws.FnExactEulerOfGenerators': WHATEVER THE INPUT: true; the input reads as it did. -/
def fnExactEulerOfGeneratorsSpec : ChangeSpec := { name := "fnExactEulerOfGenerators", fn := fun _ => fun
  | [d] => { results := [.lit (.bool true)], args := [d] }
  | _ => none }
def fnExactEulerOfGeneratorsRow : OpenClaim := { program := "ytgfmflmhcfkldaa", sum := "e572bdcbd31788ab85687d00043ee5964fbd70153b23b5e33f2458acfd09cdc0", func := "loop.example/g01219/laws.FnExactEulerOfGenerators", spec := "fnExactEulerOfGenerators", unfollowed := true, recurses := true, plainKeys := false, apart := false }
def FnExactEulerOfGeneratorsSaid : Prop := fnExactEulerOfGeneratorsRow.holds Try.pinned (OpenSpec.ofChange fnExactEulerOfGeneratorsSpec)

/-- ITS FALSE NEIGHBOUR: 'it returns false'. Refute it at one input. -/
def fnExactEulerOfGeneratorsWrong : ChangeSpec := { name := "fnExactEulerOfGenerators", fn := fun _ => fun
  | [d] => { results := [.lit (.bool false)], args := [d] }
  | _ => none }
def FnExactEulerOfGeneratorsWrongFalsely : Prop := fnExactEulerOfGeneratorsRow.holds Try.pinned (OpenSpec.ofChange fnExactEulerOfGeneratorsWrong)

/-- 'laws.FnExactFormalDimension': WHATEVER THE INPUT: true; the input reads as it did. -/
def fnExactFormalDimensionSpec : ChangeSpec := { name := "fnExactFormalDimension", fn := fun _ => fun
  | [d] => { results := [.lit (.bool true)], args := [d] }
  | _ => none }
def fnExactFormalDimensionRow : OpenClaim := { program := "ytgfmflmhcfkldaa", sum := "e572bdcbd31788ab85687d00043ee5964fbd70153b23b5e33f2458acfd09cdc0", func := "loop.example/g01219/laws.FnExactFormalDimension", spec := "fnExactFormalDimension", unfollowed := true, recurses := true, plainKeys := false, apart := false }
def FnExactFormalDimensionSaid : Prop := fnExactFormalDimensionRow.holds Try.pinned (OpenSpec.ofChange fnExactFormalDimensionSpec)

/-- ITS FALSE NEIGHBOUR: 'it returns false'. Refute it at one input. -/
def fnExactFormalDimensionWrong : ChangeSpec := { name := "fnExactFormalDimension", fn := fun _ => fun
  | [d] => { results := [.lit (.bool false)], args := [d] }
  | _ => none }
def FnExactFormalDimensionWrongFalsely : Prop := fnExactFormalDimensionRow.holds Try.pinned (OpenSpec.ofChange fnExactFormalDimensionWrong)

/-- 'laws.FnExactIsPure': WHATEVER THE INPUT: true; the input reads as it did. -/
def fnExactIsPureSpec : ChangeSpec := { name := "fnExactIsPure", fn := fun _ => fun
  | [d] => { results := [.lit (.bool true)], args := [d] }
  | _ => none }
def fnExactIsPureRow : OpenClaim := { program := "ytgfmflmhcfkldaa", sum := "e572bdcbd31788ab85687d00043ee5964fbd70153b23b5e33f2458acfd09cdc0", func := "loop.example/g01219/laws.FnExactIsPure", spec := "fnExactIsPure", unfollowed := true, recurses := true, plainKeys := false, apart := false }
def FnExactIsPureSaid : Prop := fnExactIsPureRow.holds Try.pinned (OpenSpec.ofChange fnExactIsPureSpec)

/-- ITS FALSE NEIGHBOUR: 'it returns false'. Refute it at one input. -/
def fnExactIsPureWrong : ChangeSpec := { name := "fnExactIsPure", fn := fun _ => fun
  | [d] => { results := [.lit (.bool false)], args := [d] }
  | _ => none }
def FnExactIsPureWrongFalsely : Prop := fnExactIsPureRow.holds Try.pinned (OpenSpec.ofChange fnExactIsPureWrong)

/-- 'laws.FnExactIsDesk': WHATEVER THE INPUT: true; the input reads as it did. -/
def fnExactIsDeskSpec : ChangeSpec := { name := "fnExactIsDesk", fn := fun _ => fun
  | [d] => { results := [.lit (.bool true)], args := [d] }
  | _ => none }
def fnExactIsDeskRow : OpenClaim := { program := "ytgfmflmhcfkldaa", sum := "e572bdcbd31788ab85687d00043ee5964fbd70153b23b5e33f2458acfd09cdc0", func := "loop.example/g01219/laws.FnExactIsDesk", spec := "fnExactIsDesk", unfollowed := true, recurses := true, plainKeys := false, apart := false }
def FnExactIsDeskSaid : Prop := fnExactIsDeskRow.holds Try.pinned (OpenSpec.ofChange fnExactIsDeskSpec)

/-- ITS FALSE NEIGHBOUR: 'it returns false'. Refute it at one input. -/
def fnExactIsDeskWrong : ChangeSpec := { name := "fnExactIsDesk", fn := fun _ => fun
  | [d] => { results := [.lit (.bool false)], args := [d] }
  | _ => none }
def FnExactIsDeskWrongFalsely : Prop := fnExactIsDeskRow.holds Try.pinned (OpenSpec.ofChange fnExactIsDeskWrong)

/-- 'laws.FnExactIsDerivation': WHATEVER THE INPUT: true; the input reads as it did. -/
def fnExactIsDerivationSpec : ChangeSpec := { name := "fnExactIsDerivation", fn := fun _ => fun
  | [d1, d2] => { results := [.lit (.bool true)], args := [d1, d2] }
  | _ => none }
def fnExactIsDerivationRow : OpenClaim := { program := "ytgfmflmhcfkldaa", sum := "e572bdcbd31788ab85687d00043ee5964fbd70153b23b5e33f2458acfd09cdc0", func := "loop.example/g01219/laws.FnExactIsDerivation", spec := "fnExactIsDerivation", unfollowed := true, recurses := true, plainKeys := false, apart := false }
def FnExactIsDerivationSaid : Prop := fnExactIsDerivationRow.holds Try.pinned (OpenSpec.ofChange fnExactIsDerivationSpec)

/-- ITS FALSE NEIGHBOUR: 'it returns false'. Refute it at one input. -/
def fnExactIsDerivationWrong : ChangeSpec := { name := "fnExactIsDerivation", fn := fun _ => fun
  | [d1, d2] => { results := [.lit (.bool false)], args := [d1, d2] }
  | _ => none }
def FnExactIsDerivationWrongFalsely : Prop := fnExactIsDerivationRow.holds Try.pinned (OpenSpec.ofChange fnExactIsDerivationWrong)

/-- 'laws.FnExactIsCoformal': WHATEVER THE INPUT: true; the input reads as it did. -/
def fnExactIsCoformalSpec : ChangeSpec := { name := "fnExactIsCoformal", fn := fun _ => fun
  | [d] => { results := [.lit (.bool true)], args := [d] }
  | _ => none }
def fnExactIsCoformalRow : OpenClaim := { program := "ytgfmflmhcfkldaa", sum := "e572bdcbd31788ab85687d00043ee5964fbd70153b23b5e33f2458acfd09cdc0", func := "loop.example/g01219/laws.FnExactIsCoformal", spec := "fnExactIsCoformal", unfollowed := true, recurses := true, plainKeys := false, apart := false }
def FnExactIsCoformalSaid : Prop := fnExactIsCoformalRow.holds Try.pinned (OpenSpec.ofChange fnExactIsCoformalSpec)

/-- ITS FALSE NEIGHBOUR: 'it returns false'. Refute it at one input. -/
def fnExactIsCoformalWrong : ChangeSpec := { name := "fnExactIsCoformal", fn := fun _ => fun
  | [d] => { results := [.lit (.bool false)], args := [d] }
  | _ => none }
def FnExactIsCoformalWrongFalsely : Prop := fnExactIsCoformalRow.holds Try.pinned (OpenSpec.ofChange fnExactIsCoformalWrong)

/-- 'laws.FnExactDifferentialOfForm': WHATEVER THE INPUT: true; the input reads as it did. -/
def fnExactDifferentialOfFormSpec : ChangeSpec := { name := "fnExactDifferentialOfForm", fn := fun _ => fun
  | [d1, d2] => { results := [.lit (.bool true)], args := [d1, d2] }
  | _ => none }
def fnExactDifferentialOfFormRow : OpenClaim := { program := "ytgfmflmhcfkldaa", sum := "e572bdcbd31788ab85687d00043ee5964fbd70153b23b5e33f2458acfd09cdc0", func := "loop.example/g01219/laws.FnExactDifferentialOfForm", spec := "fnExactDifferentialOfForm", unfollowed := true, recurses := true, plainKeys := false, apart := false }
def FnExactDifferentialOfFormSaid : Prop := fnExactDifferentialOfFormRow.holds Try.pinned (OpenSpec.ofChange fnExactDifferentialOfFormSpec)

/-- ITS FALSE NEIGHBOUR: 'it returns false'. Refute it at one input. -/
def fnExactDifferentialOfFormWrong : ChangeSpec := { name := "fnExactDifferentialOfForm", fn := fun _ => fun
  | [d1, d2] => { results := [.lit (.bool false)], args := [d1, d2] }
  | _ => none }
def FnExactDifferentialOfFormWrongFalsely : Prop := fnExactDifferentialOfFormRow.holds Try.pinned (OpenSpec.ofChange fnExactDifferentialOfFormWrong)

/-- 'laws.FnExactIdentityMap': WHATEVER THE INPUT: true; the input reads as it did. -/
def fnExactIdentityMapSpec : ChangeSpec := { name := "fnExactIdentityMap", fn := fun _ => fun
  | [d] => { results := [.lit (.bool true)], args := [d] }
  | _ => none }
def fnExactIdentityMapRow : OpenClaim := { program := "ytgfmflmhcfkldaa", sum := "e572bdcbd31788ab85687d00043ee5964fbd70153b23b5e33f2458acfd09cdc0", func := "loop.example/g01219/laws.FnExactIdentityMap", spec := "fnExactIdentityMap", unfollowed := true, recurses := true, plainKeys := false, apart := false }
def FnExactIdentityMapSaid : Prop := fnExactIdentityMapRow.holds Try.pinned (OpenSpec.ofChange fnExactIdentityMapSpec)

/-- ITS FALSE NEIGHBOUR: 'it returns false'. Refute it at one input. -/
def fnExactIdentityMapWrong : ChangeSpec := { name := "fnExactIdentityMap", fn := fun _ => fun
  | [d] => { results := [.lit (.bool false)], args := [d] }
  | _ => none }
def FnExactIdentityMapWrongFalsely : Prop := fnExactIdentityMapRow.holds Try.pinned (OpenSpec.ofChange fnExactIdentityMapWrong)

/- THE SECOND FORM. 'bulk': how many values and letters a reading holds, each counted each time it is reached (what is shared counts as often as it is met; a slice's spare places count too). A statement '..UptoSaid' is the law's where the arguments, and the package variables that the reading takes, are together of bulk at most 1048576: NARROWER than '..Said'. Prove '..Said' where nothing that the law and all that it calls make is longer than what came in: it says more and counts as full. Else prove '..UptoSaid'. A law counts once. -/
mutual
def uptoBulk {H : Type} : DataW H → Nat
  | .lit (.string bytes) => bytes.length + 1
  | .lit _ => 1
  | .nil => 1
  | .ptr d => uptoBulk d + 1
  | .slice elems spare => uptoBulkAll elems + uptoBulkAll spare + 1
  | .agg parts => uptoBulkAll parts + 1
  | .iface _ d => uptoBulk d + 1
  | .map entries => uptoBulkEntries entries + 1
  | .held _ => 1
def uptoBulkAll {H : Type} : List (DataW H) → Nat
  | [] => 0
  | d :: r => uptoBulk d + uptoBulkAll r
def uptoBulkEntries {H : Type} : List (Lit × DataW H) → Nat
  | [] => 0
  | x :: r => uptoBulkEntry x + uptoBulkEntries r
def uptoBulkEntry {H : Type} : Lit × DataW H → Nat
  | (.string bytes, d) => bytes.length + uptoBulk d + 1
  | (_, d) => uptoBulk d + 1
 end
def uptoSmall : (H : Type) → List (DataW H) → Bool := fun _ ds => decide (uptoBulkAll ds ≤ 1048576)
def OpenSpec.upto (s : _root_.Go.ChangeSpec) : _root_.Go.OpenSpec := { _root_.Go.OpenSpec.ofChange s with cond := some uptoSmall }

/-- 'laws.FnExactEulerOfGenerators', WHERE WHAT IT READS IS OF BULK AT MOST 1048576: true; the input reads as it did. -/
def fnExactEulerOfGeneratorsUptoRow : OpenClaim := { program := "ytgfmflmhcfkldaa", sum := "e572bdcbd31788ab85687d00043ee5964fbd70153b23b5e33f2458acfd09cdc0", func := "loop.example/g01219/laws.FnExactEulerOfGenerators", spec := "fnExactEulerOfGenerators", unfollowed := true, recurses := true, plainKeys := false, apart := false, narrowed := true }
def FnExactEulerOfGeneratorsUptoSaid : Prop := fnExactEulerOfGeneratorsUptoRow.holds Try.pinned (OpenSpec.upto fnExactEulerOfGeneratorsSpec)

/-- 'laws.FnExactFormalDimension', WHERE WHAT IT READS IS OF BULK AT MOST 1048576: true; the input reads as it did. -/
def fnExactFormalDimensionUptoRow : OpenClaim := { program := "ytgfmflmhcfkldaa", sum := "e572bdcbd31788ab85687d00043ee5964fbd70153b23b5e33f2458acfd09cdc0", func := "loop.example/g01219/laws.FnExactFormalDimension", spec := "fnExactFormalDimension", unfollowed := true, recurses := true, plainKeys := false, apart := false, narrowed := true }
def FnExactFormalDimensionUptoSaid : Prop := fnExactFormalDimensionUptoRow.holds Try.pinned (OpenSpec.upto fnExactFormalDimensionSpec)

/-- 'laws.FnExactIsPure', WHERE WHAT IT READS IS OF BULK AT MOST 1048576: true; the input reads as it did. -/
def fnExactIsPureUptoRow : OpenClaim := { program := "ytgfmflmhcfkldaa", sum := "e572bdcbd31788ab85687d00043ee5964fbd70153b23b5e33f2458acfd09cdc0", func := "loop.example/g01219/laws.FnExactIsPure", spec := "fnExactIsPure", unfollowed := true, recurses := true, plainKeys := false, apart := false, narrowed := true }
def FnExactIsPureUptoSaid : Prop := fnExactIsPureUptoRow.holds Try.pinned (OpenSpec.upto fnExactIsPureSpec)

/-- 'laws.FnExactIsDesk', WHERE WHAT IT READS IS OF BULK AT MOST 1048576: true; the input reads as it did. -/
def fnExactIsDeskUptoRow : OpenClaim := { program := "ytgfmflmhcfkldaa", sum := "e572bdcbd31788ab85687d00043ee5964fbd70153b23b5e33f2458acfd09cdc0", func := "loop.example/g01219/laws.FnExactIsDesk", spec := "fnExactIsDesk", unfollowed := true, recurses := true, plainKeys := false, apart := false, narrowed := true }
def FnExactIsDeskUptoSaid : Prop := fnExactIsDeskUptoRow.holds Try.pinned (OpenSpec.upto fnExactIsDeskSpec)

/-- 'laws.FnExactIsDerivation', WHERE WHAT IT READS IS OF BULK AT MOST 1048576: true; the input reads as it did. -/
def fnExactIsDerivationUptoRow : OpenClaim := { program := "ytgfmflmhcfkldaa", sum := "e572bdcbd31788ab85687d00043ee5964fbd70153b23b5e33f2458acfd09cdc0", func := "loop.example/g01219/laws.FnExactIsDerivation", spec := "fnExactIsDerivation", unfollowed := true, recurses := true, plainKeys := false, apart := false, narrowed := true }
def FnExactIsDerivationUptoSaid : Prop := fnExactIsDerivationUptoRow.holds Try.pinned (OpenSpec.upto fnExactIsDerivationSpec)

/-- 'laws.FnExactIsCoformal', WHERE WHAT IT READS IS OF BULK AT MOST 1048576: true; the input reads as it did. -/
def fnExactIsCoformalUptoRow : OpenClaim := { program := "ytgfmflmhcfkldaa", sum := "e572bdcbd31788ab85687d00043ee5964fbd70153b23b5e33f2458acfd09cdc0", func := "loop.example/g01219/laws.FnExactIsCoformal", spec := "fnExactIsCoformal", unfollowed := true, recurses := true, plainKeys := false, apart := false, narrowed := true }
def FnExactIsCoformalUptoSaid : Prop := fnExactIsCoformalUptoRow.holds Try.pinned (OpenSpec.upto fnExactIsCoformalSpec)

/-- 'laws.FnExactDifferentialOfForm', WHERE WHAT IT READS IS OF BULK AT MOST 1048576: true; the input reads as it did. -/
def fnExactDifferentialOfFormUptoRow : OpenClaim := { program := "ytgfmflmhcfkldaa", sum := "e572bdcbd31788ab85687d00043ee5964fbd70153b23b5e33f2458acfd09cdc0", func := "loop.example/g01219/laws.FnExactDifferentialOfForm", spec := "fnExactDifferentialOfForm", unfollowed := true, recurses := true, plainKeys := false, apart := false, narrowed := true }
def FnExactDifferentialOfFormUptoSaid : Prop := fnExactDifferentialOfFormUptoRow.holds Try.pinned (OpenSpec.upto fnExactDifferentialOfFormSpec)

/-- 'laws.FnExactIdentityMap', WHERE WHAT IT READS IS OF BULK AT MOST 1048576: true; the input reads as it did. -/
def fnExactIdentityMapUptoRow : OpenClaim := { program := "ytgfmflmhcfkldaa", sum := "e572bdcbd31788ab85687d00043ee5964fbd70153b23b5e33f2458acfd09cdc0", func := "loop.example/g01219/laws.FnExactIdentityMap", spec := "fnExactIdentityMap", unfollowed := true, recurses := true, plainKeys := false, apart := false, narrowed := true }
def FnExactIdentityMapUptoSaid : Prop := fnExactIdentityMapUptoRow.holds Try.pinned (OpenSpec.upto fnExactIdentityMapSpec)

end Rows
end Go.Proofs.Ytgfmflmhcfkldaa
