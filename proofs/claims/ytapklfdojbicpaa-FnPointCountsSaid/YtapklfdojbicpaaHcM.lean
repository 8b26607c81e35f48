/-
  Matrices out of rows of numbers; the program's unit.
-/
import Derived.Test.YtapklfdojbicpaaHcL
namespace Go.Proofs.Ytapklfdojbicpaa
open Go.RowKit

end Go.Proofs.Ytapklfdojbicpaa
