/- Texts joined for a claim: MarkH, MarkI, MarkJ. -/
import Derived.Test.YtmplpoccalccoaaMark
/-
  The laws' marks on rows of rows, doublings and matrices, and the reading of the marks.
-/
namespace Go.Proofs.Ytmplpoccalccoaa
open Go.RowKit

/-- Rows with all their blocks between lo and hi. -/
def RgR (w : World) (lo hi : Nat) (v : Value) (us : List Value) (xss : List (List Int)) : Prop :=
  RowsI w lo hi us xss ∧ ((v = .slice none 0 0 ∧ us = []) ∨ ∃ g cap, v = .slice (some ⟨g, 0, none⟩) us.length cap ∧ (lo ≤ g ∧ g < w.heap.size) ∧ (∀ j (h : j < us.length), w.cell? ⟨g, j, none⟩ = some us[j]) ∧ ∀ z ∈ us, z.ownBlock ≠ some g)
theorem RgR.rs {w : World} {lo hi : Nat} {v : Value} {us : List Value} {xss : List (List Int)} (h : RgR w lo hi v us xss) : Rs w v xss := by
  obtain ⟨h1, h2⟩ := h
  have hl := h1.len
  rcases h2 with ⟨rfl, rfl⟩ | ⟨g, cap, rfl, _, h3, _⟩
  · obtain rfl : xss = [] := List.length_eq_zero_iff.1 (by simpa using hl.symm)
    exact ⟨none, 0, rfl, .inl rfl⟩
  · refine ⟨_, cap, by rw [hl], .inr ⟨g, 0, rfl, fun j hj => ⟨us[j]'(by omega), by rw [Nat.zero_add]; exact h3 j (by omega), (h1.rows j (by omega) hj).sl⟩⟩⟩
end Go.Proofs.Ytmplpoccalccoaa
/-
  The laws' marks on doublings and matrices.
-/
namespace Go.Proofs.Ytmplpoccalccoaa
open Go.RowKit

theorem OwI.same {w w' : World} {B : Nat} {v : Value} {xs : List Int} (h : OwI w B v xs) (he : ∀ g, g < w.heap.size → v.ownBlock = some g → w'.heap[g]? = w.heap[g]?) : OwI w' B v xs := by
  rcases h with h | ⟨g, cap, cap', rfl, h⟩
  · exact .inl h
  · obtain ⟨cur, hh, hc, ht⟩ := h.row
    exact .inr ⟨g, cap, cap', rfl, OwnI.mk_ h.lt.1 (by rw [he g h.lt.2 rfl]; exact hh) hc ht h.caps.1 h.caps.2⟩
/-- A matrix with all its blocks between lo and hi. -/
def RgH (w : World) (lo hi : Nat) (v : Value) (X : Her) : Prop := ∃ d u us, v = .agg #[d, u] ∧ OwI w lo d X.dg ∧ RgR w lo hi u us X.up ∧ ∀ g, d.ownBlock = some g → (g < hi ∧ u.ownBlock ≠ some g ∧ ∀ z ∈ us, z.ownBlock ≠ some g)
theorem RgR.below {w w' : World} {lo hi : Nat} {v : Value} {us : List Value} {xss : List (List Int)} (h : RgR w lo hi v us xss) (hb : Below w.heap.size w w') : RgR w' lo hi v us xss := by
  obtain ⟨⟨h1, h2, h3, h4⟩, h5⟩ := h
  refine ⟨⟨h1, fun j a b => (h2 j a b).below hb, h3, h4⟩, ?_⟩
  rcases h5 with h5 | ⟨g, cap, rfl, h6, h7, h8⟩
  · exact .inl h5
  · exact .inr ⟨g, cap, rfl, ⟨h6.1, Nat.lt_of_lt_of_le h6.2 hb.size⟩, fun j a => kept hb (h7 j a), h8⟩
theorem RgR.grown {w w' : World} {lo hi : Nat} {v : Value} {us : List Value} {xss : List (List Int)} {row : Option Nat} (h : RgR w lo hi v us xss) (hg : w.grownBy w' row) (h9 : ∀ g, row = some g → v.ownBlock ≠ some g ∧ ∀ z ∈ us, z.ownBlock ≠ some g) : RgR w' lo hi v us xss := by
  obtain ⟨⟨h1, h2, h3, h4⟩, h5⟩ := h
  refine ⟨⟨h1, fun j a b => ?_, h3, h4⟩, ?_⟩
  · rcases h2 j a b with h | ⟨g, cap, cap', e, h⟩
    · exact .inl h
    · exact .inr ⟨g, cap, cap', e, h.grown hg (fun e2 => (h9 g e2.symm).2 _ (List.getElem_mem a) (by rw [e]; rfl))⟩
  rcases h5 with h5 | ⟨g, cap, rfl, h6, h7, h8⟩
  · exact .inl h5
  · refine .inr ⟨g, cap, rfl, ⟨h6.1, Nat.lt_of_lt_of_le h6.2 hg.size⟩, fun j a => ?_, h8⟩
    rw [World.cell?_of_block (w := w) (hg.block g h6.2 (fun e2 => (h9 g e2.symm).1 rfl))]; exact h7 j a
theorem RgH.hr {w : World} {lo hi : Nat} {v : Value} {X : Her} (h : RgH w lo hi v X) : Hr w v X := by
  obtain ⟨d, u, us, rfl, h1, h2, _⟩ := h
  exact ⟨d, u, rfl, h1.sl, h2.rs⟩
theorem RgH.below {w w' : World} {lo hi : Nat} {v : Value} {X : Her} (h : RgH w lo hi v X) (hb : Below w.heap.size w w') : RgH w' lo hi v X := by
  obtain ⟨d, u, us, rfl, h1, h2, h3⟩ := h
  exact ⟨d, u, us, rfl, h1.below hb, h2.below hb, h3⟩
theorem RgH.chg {w w' : World} {lo hi lo' hi' : Nat} {v : Value} {X : Her} (h : RgH w lo' hi' v X) (hc : Chg lo hi w w') (hr : hi ≤ lo') : RgH w' lo' hi' v X := by
  obtain ⟨d, u, us, rfl, h1, ⟨⟨k1, k2, k3, k4⟩, h5⟩, h3⟩ := h
  have far : ∀ {v : Value} {xs : List Int}, OwI w lo' v xs → OwI w' lo' v xs := fun ho => OwI.chg hc ho (fun g hg => .inr (Nat.le_trans hr (ho.blk g hg).1))
  refine ⟨d, u, us, rfl, far h1, ⟨⟨k1, fun j a b => far (k2 j a b), k3, k4⟩, ?_⟩, h3⟩
  rcases h5 with h5 | ⟨g, cap, rfl, h6, h7, h8⟩
  · exact .inl h5
  · exact .inr ⟨g, cap, rfl, ⟨h6.1, Nat.lt_of_lt_of_le h6.2 hc.size⟩, fun j a => hc.cell (h7 j a) (.inr (by omega)), h8⟩
structure Hs (X : Her) : Prop extends Hsz X where
  sum : sumL X.up ≤ 10000000
end Go.Proofs.Ytmplpoccalccoaa
/-
  Sizes of matrices that passed the laws' size check.
-/
namespace Go.Proofs.Ytmplpoccalccoaa
open Go.RowKit

theorem szGo_sum : ∀ {xss : List (List Int)} {left : Int}, 0 ≤ left → ¬ szGo left xss < 0 → (sumL xss : Int) ≤ left
  | [], left, h0, _ => by simpa [sumL] using h0
  | x :: xs, left, h0, h => by
    rw [szGo_cons] at h
    split at h
    · exact absurd (by decide) h
    · have := szGo_sum (xss := xs) (by omega) h
      simp only [sumL]
      omega
end Go.Proofs.Ytmplpoccalccoaa
