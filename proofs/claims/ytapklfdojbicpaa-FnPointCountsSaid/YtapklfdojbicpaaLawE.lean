/-
  The laws' helpers over doublings and hermitian matrices: comparison of what is equal.
-/
import Derived.Test.YtapklfdojbicpaaLawH
namespace Go.Proofs.Ytapklfdojbicpaa
open Go.RowKit

theorem farc {w w' : World} {row : Option Nat} (hg : w.grownBy w' row) {b o : Nat} {v : Value} (h : w.cell? ⟨b, o, none⟩ = some v) (hne : some b ≠ row) : w'.cell? ⟨b, o, none⟩ = some v :=
  hg.cell h hne
end Go.Proofs.Ytapklfdojbicpaa
