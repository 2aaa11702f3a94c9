/-
  No cell of these rows narrows 'for every input' (looked for: loops, veiled, ifaces, maps, wideKeys, modest, calm, conditions, laid).
  DERIVED. THE GIVEN ROWS OF THIS SEAT. 7 by the template 'for every input the law returns true; each argument reads behind the call as it read before'; 0 by the template 'total and deterministic' (their statements: YtaagfepgbofmlaaGreatTotals.lean).
  GIVEN WITH THE SEED: the statements are not yours to turn. If you find one false, say at which input.
  Laid BY PROGRAM, IN A SANDBOX (cutbox-rows.mjs): the forced cells as the released guide's own fill.sh prints them over the translation 6dc2611ef7c1a6c6… (all of the seat's roots in one cut). By AI agents, Wed Nov 11 2026. No macro, syntax, notation, axiom, sorry.
-/
import Derived.Test.YtaagfepgbofmlaaGreatChecked
import GoSem.Claim
import GoSem.ClaimJoined
import GoSem.ClaimMapViews
import Derived.JoinedTies
import Derived.KernelRfl
namespace Go.Proofs.YtaagfepgbofmlaaGreat
/- THE CELL 'sum', in the pinned program and in every row, IS THE sha256 OF THE DUMP (.gsa) THAT YtaagfepgbofmlaaGreatProg.lean LOADS. Nothing in Lean hashes anything: it is a label: what it is worth is what the hold of that sum in a sandbox is worth. -/
noncomputable def Tryz.pinned : Pinned := { name := "ytaagfepgbofmlaagreat", sum := "6dc2611ef7c1a6c6557825437aadb9a187c11e6f309fbfebb6cfad2609feac8e", checked := Tryz.checked }
namespace Rows
def none {H : Type} : Left H := { results := [], args := [] }

/-- 'laws.FnExactElementaryDerivations': WHATEVER THE INPUT: true; the input reads as it did. -/
def fnExactElementaryDerivationsSpec : ChangeSpec := { name := "fnExactElementaryDerivations", fn := fun _ => fun
  | [d1, d2] => { results := [.lit (.bool true)], args := [d1, d2] }
  | _ => none }
def fnExactElementaryDerivationsRow : OpenClaim := { program := "ytaagfepgbofmlaagreat", sum := "6dc2611ef7c1a6c6557825437aadb9a187c11e6f309fbfebb6cfad2609feac8e", func := "loop.example/g01219/laws.FnExactElementaryDerivations", spec := "fnExactElementaryDerivations", unfollowed := true, recurses := true, plainKeys := false, apart := false }
def FnExactElementaryDerivationsSaid : Prop := fnExactElementaryDerivationsRow.holds Tryz.pinned (OpenSpec.ofChange fnExactElementaryDerivationsSpec)

/-- ITS FALSE NEIGHBOUR: 'it returns false'. Refute it at one input. -/
def fnExactElementaryDerivationsWrong : ChangeSpec := { name := "fnExactElementaryDerivations", fn := fun _ => fun
  | [d1, d2] => { results := [.lit (.bool false)], args := [d1, d2] }
  | _ => none }
def FnExactElementaryDerivationsWrongFalsely : Prop := fnExactElementaryDerivationsRow.holds Tryz.pinned (OpenSpec.ofChange fnExactElementaryDerivationsWrong)

/-- 'laws.FnExactHomologyRank': WHATEVER THE INPUT: true; the input reads as it did. -/
def fnExactHomologyRankSpec : ChangeSpec := { name := "fnExactHomologyRank", fn := fun _ => fun
  | [d1, d2] => { results := [.lit (.bool true)], args := [d1, d2] }
  | _ => none }
def fnExactHomologyRankRow : OpenClaim := { program := "ytaagfepgbofmlaagreat", sum := "6dc2611ef7c1a6c6557825437aadb9a187c11e6f309fbfebb6cfad2609feac8e", func := "loop.example/g01219/laws.FnExactHomologyRank", spec := "fnExactHomologyRank", unfollowed := true, recurses := true, plainKeys := false, apart := false }
def FnExactHomologyRankSaid : Prop := fnExactHomologyRankRow.holds Tryz.pinned (OpenSpec.ofChange fnExactHomologyRankSpec)

/-- ITS FALSE NEIGHBOUR: 'it returns false'. Refute it at one input. -/
def fnExactHomologyRankWrong : ChangeSpec := { name := "fnExactHomologyRank", fn := fun _ => fun
  | [d1, d2] => { results := [.lit (.bool false)], args := [d1, d2] }
  | _ => none }
def FnExactHomologyRankWrongFalsely : Prop := fnExactHomologyRankRow.holds Tryz.pinned (OpenSpec.ofChange fnExactHomologyRankWrong)

/-- 'laws.FnExactPageDimension': WHATEVER THE INPUT: true; the input reads as it did. -/
def fnExactPageDimensionSpec : ChangeSpec := { name := "fnExactPageDimension", fn := fun _ => fun
  | [d1, d2, d3, d4] => { results := [.lit (.bool true)], args := [d1, d2, d3, d4] }
  | _ => none }
def fnExactPageDimensionRow : OpenClaim := { program := "ytaagfepgbofmlaagreat", sum := "6dc2611ef7c1a6c6557825437aadb9a187c11e6f309fbfebb6cfad2609feac8e", func := "loop.example/g01219/laws.FnExactPageDimension", spec := "fnExactPageDimension", unfollowed := true, recurses := true, plainKeys := false, apart := false }
def FnExactPageDimensionSaid : Prop := fnExactPageDimensionRow.holds Tryz.pinned (OpenSpec.ofChange fnExactPageDimensionSpec)

/-- ITS FALSE NEIGHBOUR: 'it returns false'. Refute it at one input. -/
def fnExactPageDimensionWrong : ChangeSpec := { name := "fnExactPageDimension", fn := fun _ => fun
  | [d1, d2, d3, d4] => { results := [.lit (.bool false)], args := [d1, d2, d3, d4] }
  | _ => none }
def FnExactPageDimensionWrongFalsely : Prop := fnExactPageDimensionRow.holds Tryz.pinned (OpenSpec.ofChange fnExactPageDimensionWrong)

/-- 'laws.FnExactPageRow': WHATEVER THE INPUT: true; the input reads as it did. -/
def fnExactPageRowSpec : ChangeSpec := { name := "fnExactPageRow", fn := fun _ => fun
  | [d1, d2, d3] => { results := [.lit (.bool true)], args := [d1, d2, d3] }
  | _ => none }
def fnExactPageRowRow : OpenClaim := { program := "ytaagfepgbofmlaagreat", sum := "6dc2611ef7c1a6c6557825437aadb9a187c11e6f309fbfebb6cfad2609feac8e", func := "loop.example/g01219/laws.FnExactPageRow", spec := "fnExactPageRow", unfollowed := true, recurses := true, plainKeys := false, apart := false }
def FnExactPageRowSaid : Prop := fnExactPageRowRow.holds Tryz.pinned (OpenSpec.ofChange fnExactPageRowSpec)

/-- ITS FALSE NEIGHBOUR: 'it returns false'. Refute it at one input. -/
def fnExactPageRowWrong : ChangeSpec := { name := "fnExactPageRow", fn := fun _ => fun
  | [d1, d2, d3] => { results := [.lit (.bool false)], args := [d1, d2, d3] }
  | _ => none }
def FnExactPageRowWrongFalsely : Prop := fnExactPageRowRow.holds Tryz.pinned (OpenSpec.ofChange fnExactPageRowWrong)

/-- 'laws.FnExactFiltrationOf': WHATEVER THE INPUT: true; the input reads as it did. -/
def fnExactFiltrationOfSpec : ChangeSpec := { name := "fnExactFiltrationOf", fn := fun _ => fun
  | [d1, d2] => { results := [.lit (.bool true)], args := [d1, d2] }
  | _ => none }
def fnExactFiltrationOfRow : OpenClaim := { program := "ytaagfepgbofmlaagreat", sum := "6dc2611ef7c1a6c6557825437aadb9a187c11e6f309fbfebb6cfad2609feac8e", func := "loop.example/g01219/laws.FnExactFiltrationOf", spec := "fnExactFiltrationOf", unfollowed := true, recurses := true, plainKeys := false, apart := false }
def FnExactFiltrationOfSaid : Prop := fnExactFiltrationOfRow.holds Tryz.pinned (OpenSpec.ofChange fnExactFiltrationOfSpec)

/-- ITS FALSE NEIGHBOUR: 'it returns false'. Refute it at one input. -/
def fnExactFiltrationOfWrong : ChangeSpec := { name := "fnExactFiltrationOf", fn := fun _ => fun
  | [d1, d2] => { results := [.lit (.bool false)], args := [d1, d2] }
  | _ => none }
def FnExactFiltrationOfWrongFalsely : Prop := fnExactFiltrationOfRow.holds Tryz.pinned (OpenSpec.ofChange fnExactFiltrationOfWrong)

/-- 'laws.FnExactEulerUpTo': WHATEVER THE INPUT: true; the input reads as it did. -/
def fnExactEulerUpToSpec : ChangeSpec := { name := "fnExactEulerUpTo", fn := fun _ => fun
  | [d1, d2] => { results := [.lit (.bool true)], args := [d1, d2] }
  | _ => none }
def fnExactEulerUpToRow : OpenClaim := { program := "ytaagfepgbofmlaagreat", sum := "6dc2611ef7c1a6c6557825437aadb9a187c11e6f309fbfebb6cfad2609feac8e", func := "loop.example/g01219/laws.FnExactEulerUpTo", spec := "fnExactEulerUpTo", unfollowed := true, recurses := true, plainKeys := false, apart := false }
def FnExactEulerUpToSaid : Prop := fnExactEulerUpToRow.holds Tryz.pinned (OpenSpec.ofChange fnExactEulerUpToSpec)

/-- ITS FALSE NEIGHBOUR: 'it returns false'. Refute it at one input. -/
def fnExactEulerUpToWrong : ChangeSpec := { name := "fnExactEulerUpTo", fn := fun _ => fun
  | [d1, d2] => { results := [.lit (.bool false)], args := [d1, d2] }
  | _ => none }
def FnExactEulerUpToWrongFalsely : Prop := fnExactEulerUpToRow.holds Tryz.pinned (OpenSpec.ofChange fnExactEulerUpToWrong)

/-- 'laws.FnExactPagesStopAt': WHATEVER THE INPUT: true; the input reads as it did. -/
def fnExactPagesStopAtSpec : ChangeSpec := { name := "fnExactPagesStopAt", fn := fun _ => fun
  | [d1, d2] => { results := [.lit (.bool true)], args := [d1, d2] }
  | _ => none }
def fnExactPagesStopAtRow : OpenClaim := { program := "ytaagfepgbofmlaagreat", sum := "6dc2611ef7c1a6c6557825437aadb9a187c11e6f309fbfebb6cfad2609feac8e", func := "loop.example/g01219/laws.FnExactPagesStopAt", spec := "fnExactPagesStopAt", unfollowed := true, recurses := true, plainKeys := false, apart := false }
def FnExactPagesStopAtSaid : Prop := fnExactPagesStopAtRow.holds Tryz.pinned (OpenSpec.ofChange fnExactPagesStopAtSpec)

/-- ITS FALSE NEIGHBOUR: 'it returns false'. Refute it at one input. -/
def fnExactPagesStopAtWrong : ChangeSpec := { name := "fnExactPagesStopAt", fn := fun _ => fun
  | [d1, d2] => { results := [.lit (.bool false)], args := [d1, d2] }
  | _ => none }
def FnExactPagesStopAtWrongFalsely : Prop := fnExactPagesStopAtRow.holds Tryz.pinned (OpenSpec.ofChange fnExactPagesStopAtWrong)

/- THE SECOND FORM. 'bulk': how many values and letters a reading holds, each counted each time it is reached (what is shared counts as often as it is met; a slice's spare places count too). A statement '..UptoSaid' is the law's where the arguments, and the package variables that the reading takes, are together of bulk at most 1048576: NARROWER than '..Said'. Prove '..Said' where nothing that the law and all that it calls make is longer than what came in: it says more and counts as full. Else prove '..UptoSaid'. A law counts once. -/
mutual
def uptoBulk {H : Type} : DataW H → Nat
  | .lit (.string bytes) => bytes.length + 1
  | .lit _ => 1
  | .nil => 1
  | .ptr d => uptoBulk d + 1
  | .slice elems spare => uptoBulkAll elems + uptoBulkAll spare + 1
  | .agg parts => uptoBulkAll parts + 1
  | .iface _ d => uptoBulk d + 1
  | .map entries => uptoBulkEntries entries + 1
  | .held _ => 1
def uptoBulkAll {H : Type} : List (DataW H) → Nat
  | [] => 0
  | d :: r => uptoBulk d + uptoBulkAll r
def uptoBulkEntries {H : Type} : List (Lit × DataW H) → Nat
  | [] => 0
  | x :: r => uptoBulkEntry x + uptoBulkEntries r
def uptoBulkEntry {H : Type} : Lit × DataW H → Nat
  | (.string bytes, d) => bytes.length + uptoBulk d + 1
  | (_, d) => uptoBulk d + 1
 end
def uptoSmall : (H : Type) → List (DataW H) → Bool := fun _ ds => decide (uptoBulkAll ds ≤ 1048576)
def OpenSpec.upto (s : _root_.Go.ChangeSpec) : _root_.Go.OpenSpec := { _root_.Go.OpenSpec.ofChange s with cond := some uptoSmall }

/-- 'laws.FnExactElementaryDerivations', WHERE WHAT IT READS IS OF BULK AT MOST 1048576: true; the input reads as it did. -/
def fnExactElementaryDerivationsUptoRow : OpenClaim := { program := "ytaagfepgbofmlaagreat", sum := "6dc2611ef7c1a6c6557825437aadb9a187c11e6f309fbfebb6cfad2609feac8e", func := "loop.example/g01219/laws.FnExactElementaryDerivations", spec := "fnExactElementaryDerivations", unfollowed := true, recurses := true, plainKeys := false, apart := false, narrowed := true }
def FnExactElementaryDerivationsUptoSaid : Prop := fnExactElementaryDerivationsUptoRow.holds Tryz.pinned (OpenSpec.upto fnExactElementaryDerivationsSpec)

/-- 'laws.FnExactHomologyRank', WHERE WHAT IT READS IS OF BULK AT MOST 1048576: true; the input reads as it did. -/
def fnExactHomologyRankUptoRow : OpenClaim := { program := "ytaagfepgbofmlaagreat", sum := "6dc2611ef7c1a6c6557825437aadb9a187c11e6f309fbfebb6cfad2609feac8e", func := "loop.example/g01219/laws.FnExactHomologyRank", spec := "fnExactHomologyRank", unfollowed := true, recurses := true, plainKeys := false, apart := false, narrowed := true }
def FnExactHomologyRankUptoSaid : Prop := fnExactHomologyRankUptoRow.holds Tryz.pinned (OpenSpec.upto fnExactHomologyRankSpec)

/-- 'laws.FnExactPageDimension', WHERE WHAT IT READS IS OF BULK AT MOST 1048576: true; the input reads as it did. -/
def fnExactPageDimensionUptoRow : OpenClaim := { program := "ytaagfepgbofmlaagreat", sum := "6dc2611ef7c1a6c6557825437aadb9a187c11e6f309fbfebb6cfad2609feac8e", func := "loop.example/g01219/laws.FnExactPageDimension", spec := "fnExactPageDimension", unfollowed := true, recurses := true, plainKeys := false, apart := false, narrowed := true }
def FnExactPageDimensionUptoSaid : Prop := fnExactPageDimensionUptoRow.holds Tryz.pinned (OpenSpec.upto fnExactPageDimensionSpec)

/-- 'laws.FnExactPageRow', WHERE WHAT IT READS IS OF BULK AT MOST 1048576: true; the input reads as it did. -/
def fnExactPageRowUptoRow : OpenClaim := { program := "ytaagfepgbofmlaagreat", sum := "6dc2611ef7c1a6c6557825437aadb9a187c11e6f309fbfebb6cfad2609feac8e", func := "loop.example/g01219/laws.FnExactPageRow", spec := "fnExactPageRow", unfollowed := true, recurses := true, plainKeys := false, apart := false, narrowed := true }
def FnExactPageRowUptoSaid : Prop := fnExactPageRowUptoRow.holds Tryz.pinned (OpenSpec.upto fnExactPageRowSpec)

/-- 'laws.FnExactFiltrationOf', WHERE WHAT IT READS IS OF BULK AT MOST 1048576: true; the input reads as it did. -/
def fnExactFiltrationOfUptoRow : OpenClaim := { program := "ytaagfepgbofmlaagreat", sum := "6dc2611ef7c1a6c6557825437aadb9a187c11e6f309fbfebb6cfad2609feac8e", func := "loop.example/g01219/laws.FnExactFiltrationOf", spec := "fnExactFiltrationOf", unfollowed := true, recurses := true, plainKeys := false, apart := false, narrowed := true }
def FnExactFiltrationOfUptoSaid : Prop := fnExactFiltrationOfUptoRow.holds Tryz.pinned (OpenSpec.upto fnExactFiltrationOfSpec)

/-- 'laws.FnExactEulerUpTo', WHERE WHAT IT READS IS OF BULK AT MOST 1048576: true; the input reads as it did. -/
def fnExactEulerUpToUptoRow : OpenClaim := { program := "ytaagfepgbofmlaagreat", sum := "6dc2611ef7c1a6c6557825437aadb9a187c11e6f309fbfebb6cfad2609feac8e", func := "loop.example/g01219/laws.FnExactEulerUpTo", spec := "fnExactEulerUpTo", unfollowed := true, recurses := true, plainKeys := false, apart := false, narrowed := true }
def FnExactEulerUpToUptoSaid : Prop := fnExactEulerUpToUptoRow.holds Tryz.pinned (OpenSpec.upto fnExactEulerUpToSpec)

/-- 'laws.FnExactPagesStopAt', WHERE WHAT IT READS IS OF BULK AT MOST 1048576: true; the input reads as it did. -/
def fnExactPagesStopAtUptoRow : OpenClaim := { program := "ytaagfepgbofmlaagreat", sum := "6dc2611ef7c1a6c6557825437aadb9a187c11e6f309fbfebb6cfad2609feac8e", func := "loop.example/g01219/laws.FnExactPagesStopAt", spec := "fnExactPagesStopAt", unfollowed := true, recurses := true, plainKeys := false, apart := false, narrowed := true }
def FnExactPagesStopAtUptoSaid : Prop := fnExactPagesStopAtUptoRow.holds Tryz.pinned (OpenSpec.upto fnExactPagesStopAtSpec)

end Rows
end Go.Proofs.YtaagfepgbofmlaaGreat
