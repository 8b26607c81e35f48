/-
  The program's determinant: the walk.
-/
import Derived.Test.YtmplpoccalccoaaLinG
import Derived.Test.YtmplpoccalccoaaFlowP
namespace Go.Proofs.Ytmplpoccalccoaa
open Go.RowKit

section
variable {A B O : List (List Int)} {R : List Int} {p : Int} {k t m i : Nat}
end
end Go.Proofs.Ytmplpoccalccoaa
