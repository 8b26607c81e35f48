/-
  The reference's Jordan product, and the pairing.
-/
import Derived.Test.YtacfanjejaellaaGreatHcI
namespace Go.Proofs.YtacfanjejaellaaGreat
open Go.RowKit

end Go.Proofs.YtacfanjejaellaaGreat
