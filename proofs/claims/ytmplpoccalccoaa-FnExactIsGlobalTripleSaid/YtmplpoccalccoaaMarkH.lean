/-
  The laws' marks on rows of rows, doublings and matrices, and the reading of the marks.
-/
import Derived.Test.YtmplpoccalccoaaMark
namespace Go.Proofs.Ytmplpoccalccoaa
open Go.RowKit

/-- Rows with all their blocks between lo and hi. -/
def RgR (w : World) (lo hi : Nat) (v : Value) (us : List Value) (xss : List (List Int)) : Prop :=
  RowsI w lo hi us xss ∧ ((v = .slice none 0 0 ∧ us = []) ∨ ∃ g cap, v = .slice (some ⟨g, 0, none⟩) us.length cap ∧ (lo ≤ g ∧ g < w.heap.size) ∧ (∀ j (h : j < us.length), w.cell? ⟨g, j, none⟩ = some us[j]) ∧ ∀ z ∈ us, z.ownBlock ≠ some g)
theorem RgR.rs {w : World} {lo hi : Nat} {v : Value} {us : List Value} {xss : List (List Int)} (h : RgR w lo hi v us xss) : Rs w v xss := by
  obtain ⟨h1, h2⟩ := h
  have hl := h1.len
  rcases h2 with ⟨rfl, rfl⟩ | ⟨g, cap, rfl, _, h3, _⟩
  · obtain rfl : xss = [] := List.length_eq_zero_iff.1 (by simpa using hl.symm)
    exact ⟨none, 0, rfl, .inl rfl⟩
  · refine ⟨_, cap, by rw [hl], .inr ⟨g, 0, rfl, fun j hj => ⟨us[j]'(by omega), by rw [Nat.zero_add]; exact h3 j (by omega), (h1.rows j (by omega) hj).sl⟩⟩⟩
end Go.Proofs.Ytmplpoccalccoaa
