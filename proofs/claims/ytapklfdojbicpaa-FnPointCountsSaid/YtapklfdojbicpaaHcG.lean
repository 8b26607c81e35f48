/-
  Entries of products of hermitian matrices.
-/
import Derived.Test.YtapklfdojbicpaaHcF
namespace Go.Proofs.Ytapklfdojbicpaa
open Go.RowKit

/-- The sum of the first products. -/
def eopS (p : Int) (st : List Int) (X Y : Her) (i j : Nat) : Nat → List Int
  | 0 => List.replicate (sz st.length) 0
  | k + 1 => plusL p (eopS p st X Y i j k) (mulL p st (entryH p (sz st.length) X i k) (entryH p (sz st.length) Y k j)) 1
theorem eopS_ev {p : Int} {st : List Int} {X Y : Her} {i j : Nat} (hp : 2 ≤ p) (hX : isH p (sz st.length) X = true) (hY : isH p (sz st.length) Y = true) (hi : i < 3) (hj : j < 3) : ∀ k, k ≤ 3 → Ev p (sz st.length) (eopS p st X Y i j k)
  | 0, _ => Ev.zero (by omega)
  | k + 1, h => (eopS_ev hp hX hY hi hj k (by omega)).plus (by omega) (mulL_ev (by omega) (entryH_ev hp hX hi (by omega)) (entryH_ev hp hY (by omega) hj))
theorem eopH_eq {p : Int} {st : List Int} {X Y : Her} {i j : Nat} : eopH p st X Y i j = eopS p st X Y i j 3 := rfl
theorem eopH_ev {p : Int} {st : List Int} {X Y : Her} {i j : Nat} (hp : 2 ≤ p) (hX : isH p (sz st.length) X = true) (hY : isH p (sz st.length) Y = true) (hi : i < 3) (hj : j < 3) : Ev p (sz st.length) (eopH p st X Y i j) := eopS_ev hp hX hY hi hj 3 (Nat.le_refl _)
theorem halfH_ev {p : Int} {st : List Int} {X Y : Her} {i j : Nat} (hp : 2 ≤ p) (hX : isH p (sz st.length) X = true) (hY : isH p (sz st.length) Y = true) (hi : i < 3) (hj : j < 3) : Ev p (sz st.length) (halfH p st X Y i j) :=
  Ev.scale (by omega) (Ev.plus (by omega) (eopH_ev hp hX hY hi hj) (eopH_ev hp hY hX hi hj))
end Go.Proofs.Ytapklfdojbicpaa
