/-
  The reference's adjoint.
-/
import Derived.Test.YtbllhcceakhhnaaHcQ
namespace Go.Proofs.Ytbllhcceakhhnaa
open Go.RowKit

end Go.Proofs.Ytbllhcceakhhnaa
