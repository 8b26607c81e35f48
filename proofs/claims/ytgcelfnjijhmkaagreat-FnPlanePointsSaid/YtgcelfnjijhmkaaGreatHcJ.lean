/-
  The reference's Jordan product, and the pairing.
-/
import Derived.Test.YtgcelfnjijhmkaaGreatHcI
namespace Go.Proofs.YtgcelfnjijhmkaaGreat
open Go.RowKit

end Go.Proofs.YtgcelfnjijhmkaaGreat
