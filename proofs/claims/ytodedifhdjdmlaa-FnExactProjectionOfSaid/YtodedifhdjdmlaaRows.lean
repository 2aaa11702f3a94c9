/-
  No cell of these rows narrows 'for every input' (looked for: loops, veiled, ifaces, maps, wideKeys, modest, calm, conditions, laid).
  DERIVED. THE GIVEN ROWS OF THIS SEAT. 3 by the template 'for every input the law returns true; each argument reads behind the call as it read before'; 0 by the template 'total and deterministic' (their statements: YtodedifhdjdmlaaTotals.lean).
  GIVEN WITH THE SEED: the statements are not yours to turn. If you find one false, say at which input.
  Laid BY PROGRAM, IN A SANDBOX (cutbox-rows.mjs): the forced cells as the released guide's own fill.sh prints them over the translation eca797e86f512e39… (all of the seat's roots in one cut). By AI agents, Wed Nov 11 2026. No macro, syntax, notation, axiom, sorry.
-/
import Derived.Test.YtodedifhdjdmlaaChecked
import GoSem.Claim
import GoSem.ClaimJoined
import GoSem.ClaimMapViews
import Derived.JoinedTies
import Derived.KernelRfl
namespace Go.Proofs.Ytodedifhdjdmlaa
/- THE CELL 'sum', in the pinned program and in every row, IS THE sha256 OF THE DUMP (.gsa) THAT YtodedifhdjdmlaaProg.lean LOADS. Nothing in Lean hashes anything: it is a label: what it is worth is what the hold of that sum in a sandbox is worth. -/
noncomputable def Try.pinned : Pinned := { name := "ytodedifhdjdmlaa", sum := "eca797e86f512e393004fab6df524fe508a9bbdbbf0becbfeb2b7ef8b883dcd5", checked := Try.checked }
namespace Rows
def none {H : Type} : Left H := { results := [], args := [] }

/-- 'laws.FnExactLoopSeries': WHATEVER THE INPUT: true; the input reads as it did. -/
def fnExactLoopSeriesSpec : ChangeSpec := { name := "fnExactLoopSeries", fn := fun _ => fun
  | [d1, d2] => { results := [.lit (.bool true)], args := [d1, d2] }
  | _ => none }
def fnExactLoopSeriesRow : OpenClaim := { program := "ytodedifhdjdmlaa", sum := "eca797e86f512e393004fab6df524fe508a9bbdbbf0becbfeb2b7ef8b883dcd5", func := "loop.example/g01219/laws.FnExactLoopSeries", spec := "fnExactLoopSeries", unfollowed := true, recurses := true, plainKeys := false, apart := false }
def FnExactLoopSeriesSaid : Prop := fnExactLoopSeriesRow.holds Try.pinned (OpenSpec.ofChange fnExactLoopSeriesSpec)

/-- ITS FALSE NEIGHBOUR: 'it returns false'. Refute it at one input. -/
def fnExactLoopSeriesWrong : ChangeSpec := { name := "fnExactLoopSeries", fn := fun _ => fun
  | [d1, d2] => { results := [.lit (.bool false)], args := [d1, d2] }
  | _ => none }
def FnExactLoopSeriesWrongFalsely : Prop := fnExactLoopSeriesRow.holds Try.pinned (OpenSpec.ofChange fnExactLoopSeriesWrong)

/-- 'laws.FnExactInclusionOf': WHATEVER THE INPUT: true; the input reads as it did. -/
def fnExactInclusionOfSpec : ChangeSpec := { name := "fnExactInclusionOf", fn := fun _ => fun
  | [d1, d2, d3] => { results := [.lit (.bool true)], args := [d1, d2, d3] }
  | _ => none }
def fnExactInclusionOfRow : OpenClaim := { program := "ytodedifhdjdmlaa", sum := "eca797e86f512e393004fab6df524fe508a9bbdbbf0becbfeb2b7ef8b883dcd5", func := "loop.example/g01219/laws.FnExactInclusionOf", spec := "fnExactInclusionOf", unfollowed := true, recurses := true, plainKeys := false, apart := false }
def FnExactInclusionOfSaid : Prop := fnExactInclusionOfRow.holds Try.pinned (OpenSpec.ofChange fnExactInclusionOfSpec)

/-- ITS FALSE NEIGHBOUR: 'it returns false'. Refute it at one input. -/
def fnExactInclusionOfWrong : ChangeSpec := { name := "fnExactInclusionOf", fn := fun _ => fun
  | [d1, d2, d3] => { results := [.lit (.bool false)], args := [d1, d2, d3] }
  | _ => none }
def FnExactInclusionOfWrongFalsely : Prop := fnExactInclusionOfRow.holds Try.pinned (OpenSpec.ofChange fnExactInclusionOfWrong)

/-- 'laws.FnExactProjectionOf': WHATEVER THE INPUT: true; the input reads as it did. -/
def fnExactProjectionOfSpec : ChangeSpec := { name := "fnExactProjectionOf", fn := fun _ => fun
  | [d1, d2, d3] => { results := [.lit (.bool true)], args := [d1, d2, d3] }
  | _ => none }
def fnExactProjectionOfRow : OpenClaim := { program := "ytodedifhdjdmlaa", sum := "eca797e86f512e393004fab6df524fe508a9bbdbbf0becbfeb2b7ef8b883dcd5", func := "loop.example/g01219/laws.FnExactProjectionOf", spec := "fnExactProjectionOf", unfollowed := true, recurses := true, plainKeys := false, apart := false }
def FnExactProjectionOfSaid : Prop := fnExactProjectionOfRow.holds Try.pinned (OpenSpec.ofChange fnExactProjectionOfSpec)

/-- ITS FALSE NEIGHBOUR: 'it returns false'. Refute it at one input. -/
def fnExactProjectionOfWrong : ChangeSpec := { name := "fnExactProjectionOf", fn := fun _ => fun
  | [d1, d2, d3] => { results := [.lit (.bool false)], args := [d1, d2, d3] }
  | _ => none }
def FnExactProjectionOfWrongFalsely : Prop := fnExactProjectionOfRow.holds Try.pinned (OpenSpec.ofChange fnExactProjectionOfWrong)

/- THE SECOND FORM. 'bulk': how many values and letters a reading holds, each counted each time it is reached (what is shared counts as often as it is met; a slice's spare places count too). A statement '..UptoSaid' is the law's where the arguments, and the package variables that the reading takes, are together of bulk at most 1048576: NARROWER than '..Said'. Prove '..Said' where nothing that the law and all that it calls make is longer than what came in: it says more and counts as full. Else prove '..UptoSaid'. A law counts once. -/
mutual
def uptoBulk {H : Type} : DataW H → Nat
  | .lit (.string bytes) => bytes.length + 1
  | .lit _ => 1
  | .nil => 1
  | .ptr d => uptoBulk d + 1
  | .slice elems spare => uptoBulkAll elems + uptoBulkAll spare + 1
  | .agg parts => uptoBulkAll parts + 1
  | .iface _ d => uptoBulk d + 1
  | .map entries => uptoBulkEntries entries + 1
  | .held _ => 1
def uptoBulkAll {H : Type} : List (DataW H) → Nat
  | [] => 0
  | d :: r => uptoBulk d + uptoBulkAll r
def uptoBulkEntries {H : Type} : List (Lit × DataW H) → Nat
  | [] => 0
  | x :: r => uptoBulkEntry x + uptoBulkEntries r
def uptoBulkEntry {H : Type} : Lit × DataW H → Nat
  | (.string bytes, d) => bytes.length + uptoBulk d + 1
  | (_, d) => uptoBulk d + 1
 end
def uptoSmall : (H : Type) → List (DataW H) → Bool := fun _ ds => decide (uptoBulkAll ds ≤ 1048576)
def OpenSpec.upto (s : _root_.Go.ChangeSpec) : _root_.Go.OpenSpec := { _root_.Go.OpenSpec.ofChange s with cond := some uptoSmall }

/-- 'laws.FnExactLoopSeries', WHERE WHAT IT READS IS OF BULK AT MOST 1048576: true; the input reads as it did. -/
def fnExactLoopSeriesUptoRow : OpenClaim := { program := "ytodedifhdjdmlaa", sum := "eca797e86f512e393004fab6df524fe508a9bbdbbf0becbfeb2b7ef8b883dcd5", func := "loop.example/g01219/laws.FnExactLoopSeries", spec := "fnExactLoopSeries", unfollowed := true, recurses := true, plainKeys := false, apart := false, narrowed := true }
def FnExactLoopSeriesUptoSaid : Prop := fnExactLoopSeriesUptoRow.holds Try.pinned (OpenSpec.upto fnExactLoopSeriesSpec)

/-- 'laws.FnExactInclusionOf', WHERE WHAT IT READS IS OF BULK AT MOST 1048576: true; the input reads as it did. -/
def fnExactInclusionOfUptoRow : OpenClaim := { program := "ytodedifhdjdmlaa", sum := "eca797e86f512e393004fab6df524fe508a9bbdbbf0becbfeb2b7ef8b883dcd5", func := "loop.example/g01219/laws.FnExactInclusionOf", spec := "fnExactInclusionOf", unfollowed := true, recurses := true, plainKeys := false, apart := false, narrowed := true }
def FnExactInclusionOfUptoSaid : Prop := fnExactInclusionOfUptoRow.holds Try.pinned (OpenSpec.upto fnExactInclusionOfSpec)

/-- 'laws.FnExactProjectionOf', WHERE WHAT IT READS IS OF BULK AT MOST 1048576: true; the input reads as it did. -/
def fnExactProjectionOfUptoRow : OpenClaim := { program := "ytodedifhdjdmlaa", sum := "eca797e86f512e393004fab6df524fe508a9bbdbbf0becbfeb2b7ef8b883dcd5", func := "loop.example/g01219/laws.FnExactProjectionOf", spec := "fnExactProjectionOf", unfollowed := true, recurses := true, plainKeys := false, apart := false, narrowed := true }
def FnExactProjectionOfUptoSaid : Prop := fnExactProjectionOfUptoRow.holds Try.pinned (OpenSpec.upto fnExactProjectionOfSpec)

end Rows
end Go.Proofs.Ytodedifhdjdmlaa
