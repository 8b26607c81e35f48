/-
  Determinants of hermitian matrices.
-/
import Derived.Test.YtbllhcceakhhnaaHcC
namespace Go.Proofs.Ytbllhcceakhhnaa
open Go.RowKit

theorem mulp {a b c : Int} (h1 : 0 ≤ a ∧ a ≤ 12) (h2 : 0 ≤ b ∧ b ≤ 12) (h3 : 0 ≤ c ∧ c ≤ 12) : (0 ≤ a * b ∧ a * b ≤ 144) ∧ 0 ≤ a * b * c ∧ a * b * c ≤ 1728 := by
  have k1 := mulb (k := a) (y := b) (A := 12) (B := 12) (by omega) (by omega) (by omega) (by omega)
  have k0 : 0 ≤ a * b := Int.mul_nonneg (by omega) (by omega)
  have k2 := mulb (k := a * b) (y := c) (A := 144) (B := 12) (by omega) (by omega) (by omega) (by omega)
  have k3 : 0 ≤ a * b * c := Int.mul_nonneg (by omega) (by omega)
  omega
theorem mul2 {a b : Int} (h1 : 0 ≤ a ∧ a ≤ 12) (h2 : 0 ≤ b ∧ b ≤ 12) : 0 ≤ a * b ∧ a * b ≤ 144 := by
  have k1 := mulb (k := a) (y := b) (A := 12) (B := 12) (by omega) (by omega) (by omega) (by omega)
  have k0 : 0 ≤ a * b := Int.mul_nonneg (by omega) (by omega)
  omega
theorem detH_eq {p : Int} {st : List Int} {a b c : Int} {u v t : List Int} : detH p st ⟨[a, b, c], [u, v, t]⟩ = (a * b * c + cycL p st u v t - a * normL p st u - b * normL p st v - c * normL p st t) % p := rfl
end Go.Proofs.Ytbllhcceakhhnaa
