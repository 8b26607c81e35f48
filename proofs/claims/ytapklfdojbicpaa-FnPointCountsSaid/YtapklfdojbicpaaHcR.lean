/-
  The reference's adjoint.
-/
import Derived.Test.YtapklfdojbicpaaHcQ
namespace Go.Proofs.Ytapklfdojbicpaa
open Go.RowKit

end Go.Proofs.Ytapklfdojbicpaa
