/-
  The reference's Jordan product, and the pairing.
-/
import Derived.Test.YtapklfdojbicpaaHcI
namespace Go.Proofs.Ytapklfdojbicpaa
open Go.RowKit

theorem half_first {p : Int} {st : List Int} {X Y : Her} {i j : Nat} (h : 0 < (plusL p (eopH p st X Y i j) (eopH p st Y X i j) 1).length) : (halfH p st X Y i j).getD 0 0 = invL p 2 * (plusL p (eopH p st X Y i j) (eopH p st Y X i j) 1).getD 0 0 % p := by
  unfold halfH
  obtain ⟨l, hl⟩ : ∃ l, l = plusL p (eopH p st X Y i j) (eopH p st Y X i j) 1 := ⟨_, rfl⟩
  rw [← hl] at h ⊢
  match l, h with
  | x :: xs, _ => simp [scaleL, Int.mul_comm]
end Go.Proofs.Ytapklfdojbicpaa
