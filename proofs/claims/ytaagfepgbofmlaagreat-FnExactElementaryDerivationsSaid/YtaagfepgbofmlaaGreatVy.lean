/- Copies into a row of the call's own; bits of numbers. -/
import Derived.Test.YtaagfepgbofmlaaGreatVx
set_option linter.unusedVariables false
set_option linter.unusedSimpArgs false
namespace Vc
open Go Go.RowKit
section
variable {P : Program} {ops : Array Oper} {Q : Exit → Act → World → Prop} {n : Nat} {e : Env} {w w' : World} {rest : List Oper}
variable {X : Nat → Prop} {w0 : World} {M Ps : List Item}
variable {d ty : Nat} {pos : String} {af : Array Edge}
end
end Vc
