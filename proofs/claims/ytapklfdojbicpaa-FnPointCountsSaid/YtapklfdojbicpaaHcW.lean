/-
  The reference's zero, rank, equality and idempotents.
-/
import Derived.Test.YtapklfdojbicpaaHcV
namespace Go.Proofs.Ytapklfdojbicpaa
open Go.RowKit

theorem isZ_app (xs ys : List Int) : isZ (xs ++ ys) = (isZ xs && isZ ys) := by unfold isZ; rw [List.all_append]
theorem isZ_three (a b c : Int) (u v t : List Int) : isZ (numsH ⟨[a, b, c], [u, v, t]⟩) = ((decide (a = 0) && isZ u) && ((decide (b = 0) && isZ v) && (decide (c = 0) && isZ t))) := by
  have e : numsH ⟨[a, b, c], [u, v, t]⟩ = [a, b, c] ++ (u ++ (v ++ t)) := by unfold numsH; simp
  rw [e, isZ_app, isZ_app, isZ_app]
  have h : isZ [a, b, c] = (decide (a = 0) && (decide (b = 0) && decide (c = 0))) := by
    unfold isZ
    simp only [List.all_cons, List.all_nil, Bool.and_true]
    rfl
  rw [h]
  cases decide (a = 0) <;> cases decide (b = 0) <;> cases decide (c = 0) <;> cases isZ u <;> cases isZ v <;> cases isZ t <;> rfl
end Go.Proofs.Ytapklfdojbicpaa
