/-
  Jordan products.
-/
import Derived.Test.YtapklfdojbicpaaOut
import Derived.Test.YtapklfdojbicpaaHcG
namespace Go.Proofs.Ytapklfdojbicpaa
open Go.RowKit

def jdgS (p : Int) (st : List Int) (X Y : Her) : Nat → List Int
  | 0 => []
  | k + 1 => jdgS p st X Y k ++ [(halfH p st X Y k k).getD 0 0]
def jupS (p : Int) (st : List Int) (X Y : Her) : Nat → List (List Int)
  | 0 => []
  | k + 1 => jupS p st X Y k ++ [halfH p st X Y ((k + 1) % 3) ((k + 2) % 3)]
theorem jordanH_eq {p : Int} {st : List Int} {X Y : Her} : jordanH p st X Y = ⟨jdgS p st X Y 3, jupS p st X Y 3⟩ := rfl
theorem jdgS_len {p : Int} {st : List Int} {X Y : Her} : ∀ k, (jdgS p st X Y k).length = k
  | 0 => rfl
  | k + 1 => by unfold jdgS; rw [List.length_append, jdgS_len k]; rfl
theorem jupS_len {p : Int} {st : List Int} {X Y : Her} : ∀ k, (jupS p st X Y k).length = k
  | 0 => rfl
  | k + 1 => by unfold jupS; rw [List.length_append, jupS_len k]; rfl
end Go.Proofs.Ytapklfdojbicpaa
