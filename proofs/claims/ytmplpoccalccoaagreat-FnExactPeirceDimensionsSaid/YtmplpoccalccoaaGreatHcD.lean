/-
  Determinants of hermitian matrices.
-/
import Derived.Test.YtmplpoccalccoaaGreatJar
namespace Go.Proofs.YtmplpoccalccoaaGreat
open Go.RowKit

end Go.Proofs.YtmplpoccalccoaaGreat
