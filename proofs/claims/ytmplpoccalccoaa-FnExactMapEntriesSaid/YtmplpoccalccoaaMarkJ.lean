/-
  Sizes of matrices that passed the laws' size check.
-/
import Derived.Test.YtmplpoccalccoaaMarkI
namespace Go.Proofs.Ytmplpoccalccoaa
open Go.RowKit

theorem szGo_sum : ∀ {xss : List (List Int)} {left : Int}, 0 ≤ left → ¬ szGo left xss < 0 → (sumL xss : Int) ≤ left
  | [], left, h0, _ => by simpa [sumL] using h0
  | x :: xs, left, h0, h => by
    rw [szGo_cons] at h
    split at h
    · exact absurd (by decide) h
    · have := szGo_sum (xss := xs) (by omega) h
      simp only [sumL]
      omega
theorem szH_hs {X : Her} {left : Int} (h0 : 0 ≤ left) (h1 : left ≤ 1048576) (h : ¬ szH left X < 0) : Hs X := by
  refine ⟨szH_pos h0 h1 h, ?_⟩
  unfold szH szR at h
  split at h
  · exact absurd (by decide) h
  · split at h
    · exact absurd (by decide) h
    · have := szGo_sum (by omega) h
      omega
end Go.Proofs.Ytmplpoccalccoaa
