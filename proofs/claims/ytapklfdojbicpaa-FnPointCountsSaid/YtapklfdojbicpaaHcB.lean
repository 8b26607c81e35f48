/-
  The reference's checks of hermitian matrices.
-/
import Derived.Test.YtapklfdojbicpaaHcA
namespace Go.Proofs.Ytapklfdojbicpaa
open Go.RowKit

end Go.Proofs.Ytapklfdojbicpaa
