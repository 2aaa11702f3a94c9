/-
  No cell of these rows narrows 'for every input' (looked for: loops, veiled, ifaces, maps, wideKeys, modest, calm, conditions, laid).
  DERIVED. THE GIVEN ROWS OF THIS SEAT. 5 by the template 'for every input the law returns true; each argument reads behind the call as it read before'; 0 by the template 'total and deterministic' (their statements: YtaagfepgbofmlaaTotals.lean).
  GIVEN WITH THE SEED: the statements are not yours to turn. If you find one false, say at which input.
  Laid BY PROGRAM, IN A SANDBOX (cutbox-rows.mjs): the forced cells as the released guide's own fill.sh prints them over the translation 1740e46c9d287309… (all of the seat's roots in one cut). By AI agents, Wed Nov 11 2026. No macro, syntax, notation, axiom, sorry.
-/
import Derived.Test.YtaagfepgbofmlaaChecked
import GoSem.Claim
import GoSem.ClaimJoined
import GoSem.ClaimMapViews
import Derived.JoinedTies
import Derived.KernelRfl
namespace Go.Proofs.Ytaagfepgbofmlaa
/- THE CELL 'sum', in the pinned program and in every row, IS THE sha256 OF THE DUMP (.gsa) THAT YtaagfepgbofmlaaProg.lean LOADS. Nothing in Lean hashes anything: it is a label: what it is worth is what the hold of that sum in a sandbox is worth. -/
noncomputable def Try.pinned : Pinned := { name := "ytaagfepgbofmlaa", sum := "1740e46c9d287309b034f8e0072850375fbc7c528f99f0c0adba4447f0f0653a", checked := Try.checked }
namespace Rows
def none {H : Type} : Left H := { results := [], args := [] }

/-- 'laws.FnExactMatrixOfDrop': WHATEVER THE INPUT: true; the input reads as it did. -/
def fnExactMatrixOfDropSpec : ChangeSpec := { name := "fnExactMatrixOfDrop", fn := fun _ => fun
  | [d1, d2] => { results := [.lit (.bool true)], args := [d1, d2] }
  | _ => none }
def fnExactMatrixOfDropRow : OpenClaim := { program := "ytaagfepgbofmlaa", sum := "1740e46c9d287309b034f8e0072850375fbc7c528f99f0c0adba4447f0f0653a", func := "loop.example/g01219/laws.FnExactMatrixOfDrop", spec := "fnExactMatrixOfDrop", unfollowed := true, recurses := true, plainKeys := false, apart := false }
def FnExactMatrixOfDropSaid : Prop := fnExactMatrixOfDropRow.holds Try.pinned (OpenSpec.ofChange fnExactMatrixOfDropSpec)

/-- ITS FALSE NEIGHBOUR: 'it returns false'. Refute it at one input. -/
def fnExactMatrixOfDropWrong : ChangeSpec := { name := "fnExactMatrixOfDrop", fn := fun _ => fun
  | [d1, d2] => { results := [.lit (.bool false)], args := [d1, d2] }
  | _ => none }
def FnExactMatrixOfDropWrongFalsely : Prop := fnExactMatrixOfDropRow.holds Try.pinned (OpenSpec.ofChange fnExactMatrixOfDropWrong)

/-- 'laws.FnExactWidthOf': WHATEVER THE INPUT: true; the input reads as it did. -/
def fnExactWidthOfSpec : ChangeSpec := { name := "fnExactWidthOf", fn := fun _ => fun
  | [d1, d2] => { results := [.lit (.bool true)], args := [d1, d2] }
  | _ => none }
def fnExactWidthOfRow : OpenClaim := { program := "ytaagfepgbofmlaa", sum := "1740e46c9d287309b034f8e0072850375fbc7c528f99f0c0adba4447f0f0653a", func := "loop.example/g01219/laws.FnExactWidthOf", spec := "fnExactWidthOf", unfollowed := true, recurses := true, plainKeys := false, apart := false }
def FnExactWidthOfSaid : Prop := fnExactWidthOfRow.holds Try.pinned (OpenSpec.ofChange fnExactWidthOfSpec)

/-- ITS FALSE NEIGHBOUR: 'it returns false'. Refute it at one input. -/
def fnExactWidthOfWrong : ChangeSpec := { name := "fnExactWidthOf", fn := fun _ => fun
  | [d1, d2] => { results := [.lit (.bool false)], args := [d1, d2] }
  | _ => none }
def FnExactWidthOfWrongFalsely : Prop := fnExactWidthOfRow.holds Try.pinned (OpenSpec.ofChange fnExactWidthOfWrong)

/-- 'laws.FnExactDimensionOfF': WHATEVER THE INPUT: true; the input reads as it did. -/
def fnExactDimensionOfFSpec : ChangeSpec := { name := "fnExactDimensionOfF", fn := fun _ => fun
  | [d1, d2, d3] => { results := [.lit (.bool true)], args := [d1, d2, d3] }
  | _ => none }
def fnExactDimensionOfFRow : OpenClaim := { program := "ytaagfepgbofmlaa", sum := "1740e46c9d287309b034f8e0072850375fbc7c528f99f0c0adba4447f0f0653a", func := "loop.example/g01219/laws.FnExactDimensionOfF", spec := "fnExactDimensionOfF", unfollowed := true, recurses := true, plainKeys := false, apart := false }
def FnExactDimensionOfFSaid : Prop := fnExactDimensionOfFRow.holds Try.pinned (OpenSpec.ofChange fnExactDimensionOfFSpec)

/-- ITS FALSE NEIGHBOUR: 'it returns false'. Refute it at one input. -/
def fnExactDimensionOfFWrong : ChangeSpec := { name := "fnExactDimensionOfF", fn := fun _ => fun
  | [d1, d2, d3] => { results := [.lit (.bool false)], args := [d1, d2, d3] }
  | _ => none }
def FnExactDimensionOfFWrongFalsely : Prop := fnExactDimensionOfFRow.holds Try.pinned (OpenSpec.ofChange fnExactDimensionOfFWrong)

/-- 'laws.FnExactHeisenbergModel': WHATEVER THE INPUT: true; the input reads as it did. -/
def fnExactHeisenbergModelSpec : ChangeSpec := { name := "fnExactHeisenbergModel", fn := fun _ => fun
  | [d] => { results := [.lit (.bool true)], args := [d] }
  | _ => none }
def fnExactHeisenbergModelRow : OpenClaim := { program := "ytaagfepgbofmlaa", sum := "1740e46c9d287309b034f8e0072850375fbc7c528f99f0c0adba4447f0f0653a", func := "loop.example/g01219/laws.FnExactHeisenbergModel", spec := "fnExactHeisenbergModel", unfollowed := true, recurses := true, plainKeys := false, apart := false }
def FnExactHeisenbergModelSaid : Prop := fnExactHeisenbergModelRow.holds Try.pinned (OpenSpec.ofChange fnExactHeisenbergModelSpec)

/-- ITS FALSE NEIGHBOUR: 'it returns false'. Refute it at one input. -/
def fnExactHeisenbergModelWrong : ChangeSpec := { name := "fnExactHeisenbergModel", fn := fun _ => fun
  | [d] => { results := [.lit (.bool false)], args := [d] }
  | _ => none }
def FnExactHeisenbergModelWrongFalsely : Prop := fnExactHeisenbergModelRow.holds Try.pinned (OpenSpec.ofChange fnExactHeisenbergModelWrong)

/-- 'laws.FnMonomials': WHATEVER THE INPUT: true; the input reads as it did. -/
def fnMonomialsSpec : ChangeSpec := { name := "fnMonomials", fn := fun _ => fun
  | [d] => { results := [.lit (.bool true)], args := [d] }
  | _ => none }
def fnMonomialsRow : OpenClaim := { program := "ytaagfepgbofmlaa", sum := "1740e46c9d287309b034f8e0072850375fbc7c528f99f0c0adba4447f0f0653a", func := "loop.example/g01219/laws.FnMonomials", spec := "fnMonomials", unfollowed := true, recurses := true, plainKeys := false, apart := false }
def FnMonomialsSaid : Prop := fnMonomialsRow.holds Try.pinned (OpenSpec.ofChange fnMonomialsSpec)

/-- ITS FALSE NEIGHBOUR: 'it returns false'. Refute it at one input. -/
def fnMonomialsWrong : ChangeSpec := { name := "fnMonomials", fn := fun _ => fun
  | [d] => { results := [.lit (.bool false)], args := [d] }
  | _ => none }
def FnMonomialsWrongFalsely : Prop := fnMonomialsRow.holds Try.pinned (OpenSpec.ofChange fnMonomialsWrong)

/- THE SECOND FORM. 'bulk': how many values and letters a reading holds, each counted each time it is reached (what is shared counts as often as it is met; a slice's spare places count too). A statement '..UptoSaid' is the law's where the arguments, and the package variables that the reading takes, are together of bulk at most 1048576: NARROWER than '..Said'. Prove '..Said' where nothing that the law and all that it calls make is longer than what came in: it says more and counts as full. Else prove '..UptoSaid'. A law counts once. -/
mutual
def uptoBulk {H : Type} : DataW H → Nat
  | .lit (.string bytes) => bytes.length + 1
  | .lit _ => 1
  | .nil => 1
  | .ptr d => uptoBulk d + 1
  | .slice elems spare => uptoBulkAll elems + uptoBulkAll spare + 1
  | .agg parts => uptoBulkAll parts + 1
  | .iface _ d => uptoBulk d + 1
  | .map entries => uptoBulkEntries entries + 1
  | .held _ => 1
def uptoBulkAll {H : Type} : List (DataW H) → Nat
  | [] => 0
  | d :: r => uptoBulk d + uptoBulkAll r
def uptoBulkEntries {H : Type} : List (Lit × DataW H) → Nat
  | [] => 0
  | x :: r => uptoBulkEntry x + uptoBulkEntries r
def uptoBulkEntry {H : Type} : Lit × DataW H → Nat
  | (.string bytes, d) => bytes.length + uptoBulk d + 1
  | (_, d) => uptoBulk d + 1
 end
def uptoSmall : (H : Type) → List (DataW H) → Bool := fun _ ds => decide (uptoBulkAll ds ≤ 1048576)
def OpenSpec.upto (s : _root_.Go.ChangeSpec) : _root_.Go.OpenSpec := { _root_.Go.OpenSpec.ofChange s with cond := some uptoSmall }

/-- 'laws.FnExactMatrixOfDrop', WHERE WHAT IT READS IS OF BULK AT MOST 1048576: true; the input reads as it did. -/
def fnExactMatrixOfDropUptoRow : OpenClaim := { program := "ytaagfepgbofmlaa", sum := "1740e46c9d287309b034f8e0072850375fbc7c528f99f0c0adba4447f0f0653a", func := "loop.example/g01219/laws.FnExactMatrixOfDrop", spec := "fnExactMatrixOfDrop", unfollowed := true, recurses := true, plainKeys := false, apart := false, narrowed := true }
def FnExactMatrixOfDropUptoSaid : Prop := fnExactMatrixOfDropUptoRow.holds Try.pinned (OpenSpec.upto fnExactMatrixOfDropSpec)

/-- 'laws.FnExactWidthOf', WHERE WHAT IT READS IS OF BULK AT MOST 1048576: true; the input reads as it did. -/
def fnExactWidthOfUptoRow : OpenClaim := { program := "ytaagfepgbofmlaa", sum := "1740e46c9d287309b034f8e0072850375fbc7c528f99f0c0adba4447f0f0653a", func := "loop.example/g01219/laws.FnExactWidthOf", spec := "fnExactWidthOf", unfollowed := true, recurses := true, plainKeys := false, apart := false, narrowed := true }
def FnExactWidthOfUptoSaid : Prop := fnExactWidthOfUptoRow.holds Try.pinned (OpenSpec.upto fnExactWidthOfSpec)

/-- 'laws.FnExactDimensionOfF', WHERE WHAT IT READS IS OF BULK AT MOST 1048576: true; the input reads as it did. -/
def fnExactDimensionOfFUptoRow : OpenClaim := { program := "ytaagfepgbofmlaa", sum := "1740e46c9d287309b034f8e0072850375fbc7c528f99f0c0adba4447f0f0653a", func := "loop.example/g01219/laws.FnExactDimensionOfF", spec := "fnExactDimensionOfF", unfollowed := true, recurses := true, plainKeys := false, apart := false, narrowed := true }
def FnExactDimensionOfFUptoSaid : Prop := fnExactDimensionOfFUptoRow.holds Try.pinned (OpenSpec.upto fnExactDimensionOfFSpec)

/-- 'laws.FnExactHeisenbergModel', WHERE WHAT IT READS IS OF BULK AT MOST 1048576: true; the input reads as it did. -/
def fnExactHeisenbergModelUptoRow : OpenClaim := { program := "ytaagfepgbofmlaa", sum := "1740e46c9d287309b034f8e0072850375fbc7c528f99f0c0adba4447f0f0653a", func := "loop.example/g01219/laws.FnExactHeisenbergModel", spec := "fnExactHeisenbergModel", unfollowed := true, recurses := true, plainKeys := false, apart := false, narrowed := true }
def FnExactHeisenbergModelUptoSaid : Prop := fnExactHeisenbergModelUptoRow.holds Try.pinned (OpenSpec.upto fnExactHeisenbergModelSpec)

/-- 'laws.FnMonomials', WHERE WHAT IT READS IS OF BULK AT MOST 1048576: true; the input reads as it did. -/
def fnMonomialsUptoRow : OpenClaim := { program := "ytaagfepgbofmlaa", sum := "1740e46c9d287309b034f8e0072850375fbc7c528f99f0c0adba4447f0f0653a", func := "loop.example/g01219/laws.FnMonomials", spec := "fnMonomials", unfollowed := true, recurses := true, plainKeys := false, apart := false, narrowed := true }
def FnMonomialsUptoSaid : Prop := fnMonomialsUptoRow.holds Try.pinned (OpenSpec.upto fnMonomialsSpec)

end Rows
end Go.Proofs.Ytaagfepgbofmlaa
