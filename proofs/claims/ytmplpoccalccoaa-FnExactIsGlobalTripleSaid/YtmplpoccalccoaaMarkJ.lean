/-
  Sizes of matrices that passed the laws' size check.
-/
import Derived.Test.YtmplpoccalccoaaMarkI
namespace Go.Proofs.Ytmplpoccalccoaa
open Go.RowKit

theorem szGo_sum : ∀ {xss : List (List Int)} {left : Int}, 0 ≤ left → ¬ szGo left xss < 0 → (sumL xss : Int) ≤ left
  | [], left, h0, _ => by simpa [sumL] using h0
  | x :: xs, left, h0, h => by
    rw [szGo_cons] at h
    split at h
    · exact absurd (by decide) h
    · have := szGo_sum (xss := xs) (by omega) h
      simp only [sumL]
      omega
end Go.Proofs.Ytmplpoccalccoaa
