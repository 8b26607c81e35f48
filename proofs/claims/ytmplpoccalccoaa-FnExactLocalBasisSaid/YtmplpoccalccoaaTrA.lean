/-
  Matrices of doublings: checks, columns, products with an element; program and reference.
-/
import Derived.Test.YtmplpoccalccoaaJbe
import Derived.Test.YtmplpoccalccoaaDbT
import Derived.Test.YtmplpoccalccoaaLinE
namespace Go.Proofs.Ytmplpoccalccoaa
open Go.RowKit

theorem Sl.cellat {w : World} {a : Option Addr} {c : Nat} {xs : List Int} {i : Nat} (h : Sl w (.slice a xs.length c) xs) (hi : i < xs.length) : ∃ b off, a = some ⟨b, off, none⟩ ∧ w.cell? ⟨b, off + i, none⟩ = some (.int .i64 (xs.getD i 0)) := by
  obtain ⟨a', c', e, h⟩ := h
  cases e
  rcases h with h | ⟨b, off, rfl, h⟩
  · rw [h] at hi; simp at hi
  · exact ⟨b, off, rfl, h i hi⟩
end Go.Proofs.Ytmplpoccalccoaa
