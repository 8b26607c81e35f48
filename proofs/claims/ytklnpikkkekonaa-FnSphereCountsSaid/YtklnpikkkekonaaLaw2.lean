/-
  What the walks of the laws share.
-/
import Derived.Test.YtklnpikkkekonaaCode
namespace Go.Proofs.Ytklnpikkkekonaa
open Go.RowKit

theorem farc {w w' : World} {row : Option Nat} (hg : w.grownBy w' row) {b o : Nat} {v : Value} (h : w.cell? ⟨b, o, none⟩ = some v) (hne : some b ≠ row) : w'.cell? ⟨b, o, none⟩ = some v :=
  hg.cell h hne
theorem cnt_bd {left : Int} {n : Nat} (h : ¬ szI left n < 0) : (n : Int) ≤ left := by unfold szI at h; split at h <;> omega
end Go.Proofs.Ytklnpikkkekonaa
