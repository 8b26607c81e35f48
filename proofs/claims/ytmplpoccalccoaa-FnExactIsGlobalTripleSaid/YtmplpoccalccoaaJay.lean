/- Texts joined for a claim: HcG, HcI, HcJ, Tree, HcQ, HcR, HcT, HcK, HcU. -/
import Derived.Test.YtmplpoccalccoaaJax
import Derived.Test.YtmplpoccalccoaaOut
import Derived.Test.YtmplpoccalccoaaFlow
import Derived.Deep.DeepCutAuto
/-
  Entries of products of hermitian matrices.
-/
namespace Go.Proofs.Ytmplpoccalccoaa
open Go.RowKit

end Go.Proofs.Ytmplpoccalccoaa
/-
  Jordan products.
-/
namespace Go.Proofs.Ytmplpoccalccoaa
open Go.RowKit

end Go.Proofs.Ytmplpoccalccoaa
/-
  The reference's Jordan product, and the pairing.
-/
namespace Go.Proofs.Ytmplpoccalccoaa
open Go.RowKit

end Go.Proofs.Ytmplpoccalccoaa
/-
  A region that draws its order, where at some steps one of two operations may come up: a tree of orders. Plain lemmas over any program.
-/
namespace Go.Proofs.Ytmplpoccalccoaa
open Go.RowKit

section
variable {P : Program} {ops : Array Oper}
end
end Go.Proofs.Ytmplpoccalccoaa
/-
  The adjoint.
-/
namespace Go.Proofs.Ytmplpoccalccoaa
open Go.RowKit

end Go.Proofs.Ytmplpoccalccoaa
/-
  The reference's adjoint.
-/
namespace Go.Proofs.Ytmplpoccalccoaa
open Go.RowKit

end Go.Proofs.Ytmplpoccalccoaa
/-
  Sums of matrices: the reference's.
-/
namespace Go.Proofs.Ytmplpoccalccoaa
open Go.RowKit

end Go.Proofs.Ytmplpoccalccoaa
/-
  The pairing of hermitian matrices.
-/
namespace Go.Proofs.Ytmplpoccalccoaa
open Go.RowKit

end Go.Proofs.Ytmplpoccalccoaa
/-
  First places other than 0, rows and matrices of zeros, equality of rows.
-/
namespace Go.Proofs.Ytmplpoccalccoaa
open Go.RowKit

def leadN : List Int → Nat
  | [] => 0
  | x :: xs => if x = 0 then leadN xs + 1 else 0
end Go.Proofs.Ytmplpoccalccoaa
