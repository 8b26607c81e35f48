/-
  Elements of the basis; the reference's conjugates, products, norms.
-/
import Derived.Test.YtapklfdojbicpaaApp
namespace Go.Proofs.Ytapklfdojbicpaa
open Go.RowKit

end Go.Proofs.Ytapklfdojbicpaa
