/-
  The reference's norm and cyclic form.
-/
import Derived.Test.YtmplpoccalccoaaGreatDbT
namespace Go.Proofs.YtmplpoccalccoaaGreat
open Go.RowKit

end Go.Proofs.YtmplpoccalccoaaGreat
